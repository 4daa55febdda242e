/- A value may be told less of. -/
import Derived.Test.YtpdbcfnmhicnbaaDoorAvB
import Derived.Test.YtpdbcfnmhicnbaaDoorAvC
set_option linter.unusedVariables false
set_option linter.unusedSimpArgs false
namespace Go.Av

inductive Sub : AV → AV → Prop where
  | refl (v : AV) : Sub v v
  | trans {u v w : AV} (h : Sub u v) (k : Sub v w) : Sub u w
  | undef (v : AV) : Sub v .undef
  | nils (sz : Nat) : Sub .nils (.list sz [])
  | nil (s t : Nat) : Sub (.list s []) (.list t [])
  | own (sz : Nat) (l : List AV) (b : Nat) : Sub (.own sz l b) (.list sz l)
  | list {sz : Nat} {l l' : List AV} (h : l.length = l'.length) (hs : ∀ (j : Nat) (x y : AV), l[j]? = some x → l'[j]? = some y → Sub x y) (hu : ∀ x ∈ l', x ≠ .undef) : Sub (.list sz l) (.list sz l')
  | struct {l l' : List AV} (h : l.length = l'.length) (hs : ∀ (j : Nat) (x y : AV), l[j]? = some x → l'[j]? = some y → Sub x y) (hu : ∀ x ∈ l', x ≠ .undef) : Sub (.struct l) (.struct l')
  | view {v v' : AV} (h : Sub v v') (hu : v' ≠ .undef) : Sub (.view v) (.view v')
  | tuple {l l' : List AV} (h : l.length = l'.length) (hs : ∀ (j : Nat) (x y : AV), l[j]? = some x → l'[j]? = some y → Sub x y) (hu : ∀ x ∈ l', x ≠ .undef) : Sub (.tuple l) (.tuple l')

theorem RepC.length_pos {c : Cx} {v : AV} {cs : List Value} (h : RepC c v cs) : v ≠ .undef := by
  rintro rfl
  cases h

theorem struct_sub {c : Cx} : ∀ {l : List AV} {cs : List Value}, RepC c (.struct l) cs → ∀ {l' : List AV}, l.length = l'.length → (∀ (j : Nat) (x y : AV), l[j]? = some x → l'[j]? = some y → ∀ cs, RepC c x cs → RepC c y cs) → RepC c (.struct l') cs
  | [], cs, h, l', hl, hs => by
    have : l' = [] := List.eq_nil_of_length_eq_zero hl.symm
    subst this
    exact h
  | x :: l, cs, h, [], hl, hs => by simp at hl
  | x :: l, cs, h, y :: l', hl, hs => by
    cases h with
    | scons h1 h2 => exact .scons (hs 0 x y rfl rfl _ h1) (struct_sub h2 (by simpa using hl) fun j a b ha hb => hs (j + 1) a b (by simpa using ha) (by simpa using hb))

theorem RepC.sub {c : Cx} {v v' : AV} (h : Sub v v') : v' ≠ .undef → v.sto = true → (∀ cs, RepC c v cs → RepC c v' cs) ∧ v'.isAgg = v.isAgg ∧ v'.sto = true := by
  induction h with
  | refl v => exact fun _ hs => ⟨fun _ h => h, rfl, hs⟩
  | @trans u v w h k ih1 ih2 =>
    intro hw hs
    have hv : v ≠ .undef := by
      rintro rfl
      have : ∀ a b, Sub a b → a = .undef → b = .undef := by
        intro a b hab
        induction hab <;> intro e <;> simp_all
      exact hw (this _ _ k rfl)
    obtain ⟨a1, a2, a3⟩ := ih1 hv hs
    obtain ⟨b1, b2, b3⟩ := ih2 hw a3
    exact ⟨fun cs h => b1 cs (a1 cs h), b2.trans a2, b3⟩
  | undef v => exact fun h => absurd rfl h
  | nils sz =>
    intro _ _
    refine ⟨fun cs h => ?_, rfl, rfl⟩
    cases h
    exact (ListAt.nil c sz none 0 (Nat.zero_le _)).repC
  | nil s t =>
    intro _ _
    refine ⟨fun cs h => ?_, rfl, rfl⟩
    cases h with
    | list css hc hm => exact (ListAt.nil c t _ _ hm).repC
  | own sz l b =>
    intro _ _
    refine ⟨fun cs h => ?_, rfl, rfl⟩
    cases h with
    | own css hc hm hr hs ha => exact .list css hc hm hr hs ha
  | @list sz l l' hl hs hu ih =>
    intro _ _
    refine ⟨fun cs h => ?_, rfl, rfl⟩
    cases h with
    | list css hc hm hr hsz ha =>
      rw [hl] at hc ⊢
      refine .list css hc hm (fun j y hy => ?_) (fun j hj => hsz j (by omega)) (fun j i u hj hu' => ha j i u (by omega) hu')
      have hj : j < l.length := by rw [hl]; exact (List.getElem?_eq_some_iff.1 hy).1
      have hx := List.getElem?_eq_getElem hj
      exact (ih j _ y hx hy (hu y (List.mem_of_getElem? hy)) (by
        have := hr j _ hx
        cases hq : l[j] <;> rw [hq] at this <;> first | rfl | cases this)).1 _ (hr j _ hx)
  | @struct l l' hl hs hu ih =>
    intro _ _
    refine ⟨fun cs h => ?_, rfl, rfl⟩
    refine struct_sub h hl fun j x y hx hy cs hc => ?_
    exact (ih j x y hx hy (hu y (List.mem_of_getElem? hy)) (by cases x <;> first | rfl | cases hc)).1 cs hc
  | @view v v' h hu ih =>
    intro _ _
    refine ⟨fun cs h => ?_, rfl, rfl⟩
    cases h with
    | view hv ha => exact .view ((ih hu (by cases v <;> first | rfl | cases hv)).1 _ hv) ha
  | tuple => intro _ hs; cases hs

theorem RepC.sto {c : Cx} {v : AV} {cs : List Value} (h : RepC c v cs) : v.sto = true := by cases h <;> rfl

theorem sub_undef {v : AV} (h : Sub .undef v) : v = .undef := by
  have : ∀ a b, Sub a b → a = .undef → b = .undef := by
    intro a b hab
    induction hab <;> intro e <;> simp_all
  exact this _ _ h rfl

theorem Rep1.sub {c : Cx} {v v' : AV} (h : Sub v v') {u : Value} (hr : Rep1 c v u) (hu : v' ≠ .undef) : Rep1 c v' u := by
  obtain ⟨a, b, _⟩ := RepC.sub (c := c) h hu hr.1.sto
  exact ⟨a _ hr.1, b.trans hr.2⟩

theorem RepV.sub {c : Cx} {v v' : AV} (h : Sub v v') {u : Value} (hr : RepV c v u) : RepV c v' u := by
  by_cases hu : v' = .undef
  · exact .inl hu
  rcases hr with rfl | hr | ⟨l, us, rfl, e2, e3, e4⟩
  · exact .inl (sub_undef h)
  · exact .inr (.inl (hr.sub h hu))
  · -- a tuple stays a tuple
    have key : ∀ a b, Sub a b → b ≠ .undef → ∀ l, a = .tuple l → ∃ l', b = .tuple l' ∧ l.length = l'.length ∧ ∀ (j : Nat) (x y : AV), l[j]? = some x → l'[j]? = some y → Sub x y ∧ (x ≠ .undef → y ≠ .undef) := by
      intro a b hab
      induction hab with
      | refl v => rintro _ l rfl; exact ⟨l, rfl, rfl, fun j x y hx hy => by rw [hx] at hy; injection hy with hy; subst hy; exact ⟨.refl _, id⟩⟩
      | @trans u v w h k ih1 ih2 =>
        rintro hw l rfl
        have hv : v ≠ .undef := fun e => hw (by subst e; exact sub_undef k)
        obtain ⟨l1, rfl, g1, g2⟩ := ih1 hv l rfl
        obtain ⟨l2, rfl, g3, g4⟩ := ih2 hw l1 rfl
        refine ⟨l2, rfl, g1.trans g3, fun j x y hx hy => ?_⟩
        have hj : j < l1.length := by rw [← g1]; exact (List.getElem?_eq_some_iff.1 hx).1
        have hz := List.getElem?_eq_getElem hj
        exact ⟨.trans (g2 j x _ hx hz).1 (g4 j _ y hz hy).1, fun hne => (g4 j _ y hz hy).2 ((g2 j x _ hx hz).2 hne)⟩
      | undef v => intro h; exact absurd rfl h
      | tuple hl hs hu' => rintro _ l e; injection e with e; subst e; exact ⟨_, rfl, hl, fun j x y hx hy => ⟨hs j x y hx hy, fun _ => hu' y (List.mem_of_getElem? hy)⟩⟩
      | _ => intro _ l e; cases e
    obtain ⟨l', rfl, g1, g2⟩ := key _ _ h hu l rfl
    refine .inr (.inr ⟨l', us, rfl, e2, e3.trans g1, fun j x y hx hy => ?_⟩)
    have hj : j < l.length := by rw [g1]; exact (List.getElem?_eq_some_iff.1 hx).1
    have hz := List.getElem?_eq_getElem hj
    have h1 := e4 j _ y hz hy
    obtain ⟨hs, hne⟩ := g2 j _ x hz hx
    exact h1.sub hs (hne h1.1.length_pos)

/-- A heap of objects that tells less. -/
structure HLe (H' H : AHeap) : Prop where
  box : ∀ b v', H' b = some (.box v') → H b = some (.box v') ∨ (v' ≠ .undef ∧ ∃ v, H b = some (.box v) ∧ Sub v v')
  row : ∀ b n s e, H' b = some (.row n s e) → H b = some (.row n s e)
  x : ∀ b o, o.isX = true → H' b = some o → H b = some o

def EnvLe (env env' : Env) : Prop := ∀ i, Sub (env.get i) (env'.get i)

theorem EnvLe.refl (env : Env) : EnvLe env env := fun _ => .refl _

theorem HLe.of_sub {H' H : AHeap} (h : ∀ b o, H' b = some o → H b = some o) : HLe H' H :=
  ⟨fun b v' hb => .inl (h b _ hb), fun b n s e hb => h b _ hb, fun b o _ hb => h b o hb⟩

theorem HLe.refl (H : AHeap) : HLe H H := .of_sub fun _ _ h => h

theorem HLe.trans {A B C : AHeap} (h : HLe A B) (k : HLe B C) : HLe A C :=
  ⟨fun b v' hb => by
    rcases h.box b v' hb with h1 | ⟨hu, v, h1, hs⟩
    · exact k.box b v' h1
    · rcases k.box b v h1 with h2 | ⟨hu2, u, h2, hs2⟩
      · exact .inr ⟨hu, v, h2, hs⟩
      · exact .inr ⟨hu, u, h2, hs2.trans hs⟩, fun b n s e hb => k.row b n s e (h.row b n s e hb), fun b o ho hb => k.x b o ho (h.x b o ho hb)⟩

theorem Cx.Le.weaken {c : Cx} {H' : AHeap} (h : HLe H' c.H) : c.Le { c with H := H' } :=
  ⟨rfl, Nat.le_refl _, fun _ _ hr => hr, fun _ _ => rfl, rfl, rfl, rfl, rfl, fun b n s e _ hr => .inl ⟨h.row b n s e hr, rfl⟩⟩

theorem RH.weaken {c : Cx} (hh : RH c) {H' : AHeap} (h : HLe H' c.H) : RH { c with H := H' } where
  base := hh.base
  new := hh.new
  lt := fun b o hb => by
    cases o with
    | box v' =>
      rcases h.box b v' hb with hv | ⟨_, v, hv, _⟩
      · exact hh.lt b _ hv
      · exact hh.lt b _ hv
    | row n s e => exact hh.lt b _ (h.row b n s e hb)
    | bld s T e => exact hh.lt b _ (h.x b _ rfl hb)
    | tab cs => exact hh.lt b _ (h.x b _ rfl hb)
    | mp l => exact hh.lt b _ (h.x b _ rfl hb)
  ge := fun b o hb ho => by
    cases o with
    | box v' =>
      rcases h.box b v' hb with hv | ⟨_, v, hv, _⟩
      · exact hh.ge b _ hv rfl
      · exact hh.ge b _ hv rfl
    | row n s e => exact hh.ge b _ (h.row b n s e hb) rfl
    | bld s T e => exact hh.ge b _ (h.x b _ rfl hb) rfl
    | tab cs => cases ho
    | mp l => exact hh.ge b _ (h.x b _ rfl hb) rfl
  x := hh.x.keep rfl (Nat.le_refl _) (fun _ _ _ => ⟨rfl, rfl⟩) (fun x o ho hx => h.x x o ho hx) (fun x _ hn => by
    show H' x = none
    cases hq : H' x with
    | none => rfl
    | some o =>
      exfalso
      cases o with
      | box v' =>
        rcases h.box x v' hq with hv | ⟨_, v, hv, _⟩
        · rw [hv] at hn; cases hn
        · rw [hv] at hn; cases hn
      | row n s e => rw [h.row x n s e hq] at hn; cases hn
      | bld s T e => rw [h.x x _ rfl hq] at hn; cases hn
      | tab cs => rw [h.x x _ rfl hq] at hn; cases hn
      | mp l => rw [h.x x _ rfl hq] at hn; cases hn)
  box := fun b v' hb => by
    rcases h.box b v' hb with hv | ⟨hu, v, hv, hs⟩
    · obtain ⟨p, cs, e, q1, q2⟩ := hh.box b v' hv
      exact ⟨p, cs, e, q1, q2.mono (Cx.Le.weaken h)⟩
    · obtain ⟨p, cs, e, q1, q2⟩ := hh.box b v hv
      exact ⟨p, cs, e, q1, (((RepC.sub (c := c) hs hu q2.sto).1 _ q2).mono (Cx.Le.weaken h))⟩
  row := fun b n s e hb => hh.row b n s e (h.row b n s e hb)

theorem RS.weaken {c : Cx} {n : Nat} {env env' : Env} {a : Act} (hr : RS c n env a) (h : EnvLe env env') : RS c n env' a :=
  ⟨fun i => (hr.rep i).sub (h i), hr.size, hr.defers, hr.keep⟩
end Go.Av

namespace Go.Av

def putD (env : Env) (d : Option Nat) (v : AV) : Env :=
  match d with
  | none => env
  | some d => env.set d v

/-- One operation with its guard. -/
def awOp (P : Program) (ai : AI) (K : Env → AHeap → Prop) (Kp : Value → AHeap → Prop) (env : Env) (H : AHeap) : Prop :=
  match ai.g with
  | none => aop P H env ai.op (fun v H' => K (putD env ai.d v) H') Kp
  | some (s, want) => match env.get s with
    | .bool b => (b = want → aop P H env ai.op (fun v H' => K (putD env ai.d v) H') Kp) ∧ (b = !want → K (putD env ai.d (.tuple [])) H)
    | .tuple [] => K (putD env ai.d (.tuple [])) H
    | _ => False

def awOps (P : Program) : List AI → (Env → AHeap → Prop) → (Value → AHeap → Prop) → Env → AHeap → Prop
  | [], K, _, env, H => K env H
  | ai :: rest, K, Kp, env, H => awOp P ai (awOps P rest K Kp) Kp env H

def readyL (ops : List (AI × List Nat)) (listed : List Nat) : List Nat :=
  (List.range ops.length).filter fun i => !listed.contains i && (match ops[i]? with | some (_, l) => l.all listed.contains | none => false)

/-- Whatever order is drawn. -/
def awAny (P : Program) (ops : List (AI × List Nat)) (K : Env → AHeap → Prop) (Kp : Value → AHeap → Prop) : Nat → List Nat → Env → AHeap → Prop
  | 0, listed, env, H => readyL ops listed = [] ∧ K env H
  | f + 1, listed, env, H => (readyL ops listed = [] → K env H) ∧ ∀ i ∈ readyL ops listed, match ops[i]? with
    | some (ai, _) => awOp P ai (awAny P ops K Kp f (i :: listed)) Kp env H
    | none => False

inductive AEx where
  | norm
  | exit (id : Nat)
  | ret
  | pan (v : Value)

abbrev AK := AEx → Env → AHeap → Prop

def thenK (next : Env → AHeap → Prop) (K : AK) : AK
  | .norm, env, H => next env H
  | e, env, H => K e env H

def blockK (id : Nat) (K : AK) : AK
  | .exit i, env, H => if i = id then K .norm env H else K (.exit i) env H
  | e, env, H => K e env H

def aw (P : Program) : AC → AK → Env → AHeap → Prop
  | .skip, K, env, H => K .norm env H
  | .ret, K, env, H => K .ret env H
  | .exit id, K, env, H => K (.exit id) env H
  | .reg ops kill, K, env, H => awOps P ops (fun env' H' => K .norm (env'.kill kill) H') (fun pv H' => K (.pan pv) [] H') env H
  | .dreg ops kill, K, env, H => awAny P ops (fun env' H' => K .norm (env'.kill kill) H') (fun pv H' => K (.pan pv) [] H') ops.length [] env H
  | .seq a b, K, env, H => aw P a (thenK (fun env' H' => aw P b K env' H') K) env H
  | .cond x a b, K, env, H => match x.ev env with
    | .bool t => (t = true → aw P a K env H) ∧ (t = false → aw P b K env H)
    | _ => False
  | .block id a, K, env, H => aw P a (blockK id K) env H
  | .loop a, K, env, H => ∀ X : Env → AHeap → Prop, (∀ env' H', aw P a (thenK X K) env' H' → X env' H') → (∀ env1 H1 env2 H2, EnvLe env1 env2 → HLe H2 H1 → X env2 H2 → X env1 H1) → X env H

def AEx.toExit : AEx → Exit
  | .norm => .normal
  | .exit id => .exit id
  | .ret => .ret
  | .pan v => .panic [{ v := v, recovered := false }]

theorem RS.putD {c : Cx} {n : Nat} {env : Env} {a : Act} (hr : RS c n env a) {d : Option Nat} (hd : (match d with | none => true | some d => decide (d < n)) = true) {v : AV} {u : Value} (hv : RepV c v u) (hkp : ∀ t, d = some t → ∀ p ∈ c.ds.2, p.1 ≠ t) : RS c n (putD env d v) (a.put d u) := by
  cases d with
  | none => exact hr
  | some d => exact hr.put (by simpa using hd) hv (hkp d rfl)

theorem RS.empty {c : Cx} {n : Nat} {env : Env} {a : Act} (hr : RS c n env a) : RS c n [] a := ⟨fun i => .inl rfl, hr.size, hr.defers, hr.keep⟩

theorem wanted_guard {all : Array Oper} {o : Oper} {j : Nat} {want : Bool} {s : Nat} {c : Cx} {n : Nat} {env : Env} {a : Act} (hs : RS c n env a) (hg : o.guard = some (j, want)) (hj : (all[j]?).bind (·.dst) = some s) {b : Bool} (hb : env.get s = .bool b) :
    Region.wanted o (yielded all a.tmps) = (b == want) := by
  have hv := hs.rep s
  rw [hb] at hv
  have hv := hv.bool
  have hlt : s < a.tmps.size := by
    rcases Nat.lt_or_ge s a.tmps.size with h | h
    · exact h
    · rw [Array.getD_eq_getD_getElem?, Array.getElem?_eq_none h] at hv
      cases hv
  have : yielded all a.tmps j = some b := by
    unfold yielded
    rw [hj]
    simp only [Option.bind_some]
    rw [Array.getElem?_eq_getElem hlt]
    rw [Array.getD_eq_getD_getElem?, Array.getElem?_eq_getElem hlt] at hv
    simp only [Option.getD_some] at hv
    rw [hv]
  unfold Region.wanted
  rw [hg]
  simp only [this]
  cases b <;> cases want <;> rfl

theorem wanted_skip {all : Array Oper} {o : Oper} {j : Nat} {want : Bool} {s : Nat} {c : Cx} {n : Nat} {env : Env} {a : Act} (hs : RS c n env a) (hg : o.guard = some (j, want)) (hj : (all[j]?).bind (·.dst) = some s) (hb : env.get s = .tuple []) :
    Region.wanted o (yielded all a.tmps) = false := by
  have hv := hs.rep s
  rw [hb] at hv
  obtain ⟨us, e1, e2, _⟩ := hv.tuple
  have : us = [] := List.eq_nil_of_length_eq_zero (by simpa using e2)
  subst this
  have : yielded all a.tmps j = none := by
    unfold yielded
    rw [hj]
    simp only [Option.bind_some]
    rcases Nat.lt_or_ge s a.tmps.size with h | h
    · rw [Array.getElem?_eq_getElem h]
      rw [Array.getD_eq_getD_getElem?, Array.getElem?_eq_getElem h] at e1
      simp only [Option.getD_some] at e1
      rw [e1]
    · rw [Array.getElem?_eq_none h]
  unfold Region.wanted
  rw [hg]
  simp only [this]
  rfl

theorem rep_skip (c : Cx) : RepV c (.tuple []) undef := .inr (.inr ⟨[], [], rfl, rfl, rfl, fun j x y hx => by simp at hx⟩)

/-- One operation, in a region: what the kit's 'wpOp' asks. -/
theorem awOp_sound {P : Program} {own : Bool} {n : Nat} {all : Array Oper} {o : Oper} {ai : AI} (hc : compAI P own n all o = some ai) {c : Cx} {env : Env} {a : Act} (hs : RS c n env a) (hh : RH c) (hkp : ∀ t, o.dst = some t → ∀ p ∈ c.ds.2, p.1 ≠ t)
    {K : Env → AHeap → Prop} {Kp : Value → AHeap → Prop} (h : awOp P ai K Kp env c.H) {next : Act → World → Prop} {Q : Exit → Act → World → Prop}
    (hK : ∀ (d : Cx) (env' : Env) (a' : Act), c.Le d → RH d → RS d n env' a' → K env' d.H → next a' d.w)
    (hp : ∀ (d : Cx) (pv : Value) (a' : Act), c.Le d → RH d → RS d n [] a' → Kp pv d.H → Q (.panic [{ v := pv, recovered := false }]) a' d.w) :
    if Region.wanted o (yielded all a.tmps) = true then o.wp P a c.w next Q else next (a.put o.dst undef) c.w := by
  unfold compAI at hc
  split at hc
  · cases hc
  · rename_i op hop
    split at hc
    · cases hc
    · rename_i hd
      have run : aop P c.H env op (fun v H' => K (putD env o.dst v) H') Kp → o.wp P a c.w next Q := fun h =>
        aop_sound hop hs hh h (fun d v u hle hrh hrep hk => hK d _ _ hle hrh ((hs.mono hle).putD hd hrep (by rw [hle.ds]; exact hkp)) hk) (fun d pv hle hrh hk => hp d pv a hle hrh (hs.mono hle).empty hk)
      split at hc
      · rename_i hg
        injection hc with hc
        subst hc
        simp only [awOp] at h
        rw [if_pos (by simp [Region.wanted, hg])]
        exact run h
      · rename_i j want hg
        split at hc
        · rename_i s hj
          injection hc with hc
          subst hc
          simp only [awOp] at h
          split at h
          · rename_i b hb
            rw [wanted_guard hs hg hj hb]
            by_cases hbw : b = want
            · rw [if_pos (by simp [hbw])]
              exact run (h.1 hbw)
            · rw [if_neg (by simp [hbw])]
              exact hK c _ _ (Cx.Le.refl c) hh (hs.putD hd (rep_skip c) hkp) (h.2 (by cases b <;> cases want <;> simp_all))
          · rename_i hb
            rw [wanted_skip hs hg hj hb]
            exact hK c _ _ (Cx.Le.refl c) hh (hs.putD hd (rep_skip c) hkp) h
          · exact h.elim
        · cases hc

theorem awOps_sound {P : Program} {own : Nat → Bool} {n : Nat} {all : Array Oper} {Q : Exit → Act → World → Prop} {K : Env → AHeap → Prop} {Kp : Value → AHeap → Prop} (c0 : Cx)
    (hK : ∀ (d : Cx) (env' : Env) (a' : Act), c0.Le d → RH d → RS d n env' a' → K env' d.H → Q .normal a' d.w)
    (hp : ∀ (d : Cx) (pv : Value) (a' : Act), c0.Le d → RH d → RS d n [] a' → Kp pv d.H → Q (.panic [{ v := pv, recovered := false }]) a' d.w) :
    ∀ (l : List Oper) (k : Nat) (ais : List AI), (∀ o ∈ l, ∀ t, o.dst = some t → ∀ p ∈ c0.ds.2, p.1 ≠ t) → compL P own n all k l = some ais → ∀ (c : Cx) (env : Env) (a : Act), c0.Le c → RS c n env a → RH c → awOps P ais K Kp env c.H → wpList P all Q l a c.w
  | [], k, ais, hkp, hc, c, env, a, h0, hs, hh, h => by
    simp only [compL, Option.some.injEq] at hc
    subst hc
    exact hK c env a h0 hh hs h
  | o :: l, k, ais, hkp, hc, c, env, a, h0, hs, hh, h => by
    simp only [compL] at hc
    split at hc
    · rename_i ai as h1 h2
      injection hc with hc
      subst hc
      simp only [awOps] at h
      refine wpList_step fun K' hK' => ?_
      exact awOp_sound h1 hs hh (by rw [h0.ds]; exact hkp o (by simp)) h (fun d env' a' hle hrh hrs hk => hK' _ _ (awOps_sound c0 hK hp l (k + 1) as (fun o ho => hkp o (by simp [ho])) h2 d env' a' (h0.trans hle) hrs hrh hk)) (fun d pv a' hle hrh hrs hk => hp d pv a' (h0.trans hle) hrh hrs hk)
    · cases hc

theorem compL_at {P : Program} {own : Nat → Bool} {n : Nat} {all : Array Oper} : ∀ (l : List Oper) (k : Nat) (ais : List AI), compL P own n all k l = some ais → ais.length = l.length ∧ ∀ (i : Nat) (o : Oper), l[i]? = some o → ∃ ai, ais[i]? = some ai ∧ compAI P (own (k + i)) n all o = some ai
  | [], k, ais, hc => by
    simp only [compL, Option.some.injEq] at hc
    subst hc
    exact ⟨rfl, fun i o h => by simp at h⟩
  | o :: l, k, ais, hc => by
    simp only [compL] at hc
    split at hc
    · rename_i ai as h1 h2
      injection hc with hc
      subst hc
      obtain ⟨e1, e2⟩ := compL_at l (k + 1) as h2
      refine ⟨by simp [e1], fun i o' h => ?_⟩
      cases i with
      | zero => simp only [List.getElem?_cons_zero, Option.some.injEq] at h; subst h; exact ⟨ai, rfl, h1⟩
      | succ i =>
        obtain ⟨ai', g1, g2⟩ := e2 i o' (by simpa using h)
        exact ⟨ai', by simpa using g1, by rwa [show k + 1 + i = k + (i + 1) from by omega] at g2⟩
    · cases hc

theorem ready_iff {P : Program} {own : Nat → Bool} {n : Nat} {all : Array Oper} {ais : List AI} (hc : compL P own n all 0 all.toList = some ais) {arr : Array Bool} {listed : List Nat} (hsz : arr.size = all.size) (hl : ∀ i, arr.getD i true = (decide (all.size ≤ i) || listed.contains i)) (hb : ∀ i ∈ listed, i < all.size) (j : Nat) :
    j ∈ Region.ready .any all arr ↔ j ∈ readyL (ais.zip (all.toList.map aftersOf)) listed := by
  obtain ⟨e1, e2⟩ := compL_at _ _ _ hc
  have hgf : ∀ i, arr.getD i false = listed.contains i := by
    intro i
    rcases Nat.lt_or_ge i arr.size with h | h
    · have := hl i
      simp only [Array.getD_eq_getD_getElem?, Array.getElem?_eq_getElem h, Option.getD_some] at this ⊢
      rw [this]
      simp
      omega
    · rw [Array.getD_eq_getD_getElem?, Array.getElem?_eq_none h]
      simp only [Option.getD_none]
      cases hq : listed.contains i with
      | false => rfl
      | true => have := hb i (by simpa using hq); omega
  rw [mem_ready]
  unfold readyL
  simp only [List.mem_filter, List.mem_range, List.length_zip, List.length_map, Array.length_toList, Bool.and_eq_true, Bool.not_eq_true']
  rw [e1]
  simp only [Array.length_toList, Nat.min_self]
  constructor
  · rintro ⟨h1, o, ho, hall⟩
    have hlt : j < all.size := (Array.getElem?_eq_some_iff.1 ho).1
    have h1' := hl j
    rw [h1] at h1'
    refine ⟨hlt, ?_, ?_⟩
    · cases hq : listed.contains j with
      | false => rfl
      | true => rw [hq] at h1'; simp at h1'
    · obtain ⟨ai, ha, _⟩ := e2 j o (by simpa using ho)
      have hz : (ais.zip (all.toList.map aftersOf))[j]? = some (ai, aftersOf o) := by
        rw [List.getElem?_zip_eq_some]
        exact ⟨ha, by simp [ho]⟩
      rw [hz]
      simp only [List.all_eq_true, aftersOf, List.mem_map, List.mem_filter]
      rintro x ⟨e, ⟨he1, he2⟩, rfl⟩
      have := hall e (by simpa using he1) he2
      rw [hgf] at this
      exact this
  · rintro ⟨hlt, h1, h2⟩
    have ho := Array.getElem?_eq_getElem hlt
    refine ⟨by rw [hl, h1]; simp; omega, all[j], ho, fun e he hbd => ?_⟩
    obtain ⟨ai, ha, _⟩ := e2 j _ (by rw [Array.getElem?_toList]; exact ho)
    have hz : (ais.zip (all.toList.map aftersOf))[j]? = some (ai, aftersOf all[j]) := by
      rw [List.getElem?_zip_eq_some]
      exact ⟨ha, by simp [ho]⟩
    rw [hz] at h2
    simp only [List.all_eq_true, aftersOf, List.mem_map, List.mem_filter] at h2
    rw [hgf]
    exact h2 e.on ⟨e, ⟨by simpa using he, hbd⟩, rfl⟩

theorem awAny_sound {P : Program} {own : Nat → Bool} {n : Nat} {all : Array Oper} {ais : List AI} (hc : compL P own n all 0 all.toList = some ais) (c0 : Cx) (hkp : ∀ o ∈ all.toList, ∀ t, o.dst = some t → ∀ p ∈ c0.ds.2, p.1 ≠ t) {Q : Exit → Act → World → Prop} {K : Env → AHeap → Prop} {Kp : Value → AHeap → Prop}
    (hK : ∀ (d : Cx) (env' : Env) (a' : Act), c0.Le d → RH d → RS d n env' a' → K env' d.H → Q .normal a' d.w)
    (hp : ∀ (d : Cx) (pv : Value) (a' : Act), c0.Le d → RH d → RS d n [] a' → Kp pv d.H → Q (.panic [{ v := pv, recovered := false }]) a' d.w) :
    ∀ (f : Nat) (arr : Array Bool) (listed : List Nat) (c : Cx) (env : Env) (a : Act), arr.size = all.size → (∀ i, arr.getD i true = (decide (all.size ≤ i) || listed.contains i)) → (∀ i ∈ listed, i < all.size) →
      c0.Le c → RS c n env a → RH c → awAny P (ais.zip (all.toList.map aftersOf)) K Kp f listed env c.H → wpAny P .any all Q f arr a c.w
  | 0, arr, listed, c, env, a, h1, h2, h3, h0, hs, hh, h => by
    refine ⟨?_, hK c env a h0 hh hs h.2⟩
    apply List.eq_nil_iff_forall_not_mem.2
    intro j hj
    have := (ready_iff hc h1 h2 h3 j).1 hj
    rw [h.1] at this
    cases this
  | f + 1, arr, listed, c, env, a, h1, h2, h3, h0, hs, hh, h => by
    obtain ⟨g1, g2⟩ := h
    refine ⟨fun he => ?_, fun j hj => ?_⟩
    · refine hK c env a h0 hh hs (g1 ?_)
      apply List.eq_nil_iff_forall_not_mem.2
      intro j hj
      have := (ready_iff hc h1 h2 h3 j).2 hj
      rw [he] at this
      cases this
    · have hjr := (ready_iff hc h1 h2 h3 j).1 hj
      have hlt : j < all.size := by
        obtain ⟨_, o, ho, _⟩ := mem_ready.1 hj
        exact (Array.getElem?_eq_some_iff.1 ho).1
      have ho := Array.getElem?_eq_getElem hlt
      have hg := g2 j hjr
      obtain ⟨e1, e2⟩ := compL_at _ _ _ hc
      obtain ⟨ai, ha, hcai⟩ := e2 j _ (by rw [Array.getElem?_toList]; exact ho)
      have hz : (ais.zip (all.toList.map aftersOf))[j]? = some (ai, aftersOf all[j]) := by
        rw [List.getElem?_zip_eq_some]
        exact ⟨ha, by simp [ho]⟩
      rw [hz] at hg
      simp only at hg
      unfold wpOp
      rw [ho]
      simp only
      have key := awOp_sound (next := wpAny P .any all Q f (arr.setIfInBounds j true)) (Q := Q) hcai hs hh (by rw [h0.ds]; exact hkp _ (by simp)) hg (fun d env' a' hle hrh hrs hk => awAny_sound hc c0 hkp hK hp f (arr.setIfInBounds j true) (j :: listed) d env' a' (by simp [h1]) (fun i => by
          by_cases hij : j = i
          · subst hij
            simp [Array.getD_eq_getD_getElem?, h1, hlt]
          · rw [Array.getD_eq_getD_getElem?, Array.getElem?_setIfInBounds_ne hij, ← Array.getD_eq_getD_getElem?, h2 i]
            simp [List.contains_cons, Ne.symm hij]) (fun i hi => by rcases List.mem_cons.1 hi with rfl | hi; exact hlt; exact h3 i hi) (h0.trans hle) hrs hrh hk)
        (fun d pv a' hle hrh hrs hk => hp d pv a' (h0.trans hle) hrh hrs hk)
      split at key
      · rename_i hw
        rw [if_pos hw]
        exact .inl key
      · rename_i hw
        rw [if_neg hw]
        exact key

/-- A round of a loop that has been entered. -/
def LWp (P : Program) (code : Code) (Q : Exit → Act → World → Prop) (a : Act) (w : World) : Prop :=
  ∀ (b : Frame) (k : List Item) (cs : List Frame), ∃ e a' w', Q e a' w' ∧ Arrives P (lone (b.at a (.inLoop code :: k)) cs w) b k cs e a' w'

theorem lwp_of_body {P : Program} {code : Code} {Q : Exit → Act → World → Prop} {a : Act} {w : World} (h : code.wp P (Exit.then (LWp P code Q) Q) a w) (b : Frame) (k : List Item) (cs : List Frame) :
    ∃ e a' w', Q e a' w' ∧ Arrives P (lone (b.at a (.code code :: .inLoop code :: k)) cs w) b k cs e a' w' := by
  obtain ⟨e, a₁, w₁, hq, harr⟩ := h b (.inLoop code :: k) cs
  cases e with
  | normal =>
    obtain ⟨e₂, a₂, w₂, hq₂, harr₂⟩ := hq b k cs
    exact ⟨e₂, a₂, w₂, hq₂, .of_steps harr harr₂⟩
  | exit id => exact ⟨_, a₁, w₁, hq, .pass (x := .inLoop code) rfl (fun _ _ => .inl (by simp)) harr⟩
  | goto l => exact ⟨_, a₁, w₁, hq, .pass (x := .inLoop code) rfl (fun _ _ => .inl (by simp)) harr⟩
  | ret => exact ⟨_, a₁, w₁, hq, .pass (x := .inLoop code) rfl (fun _ _ => .inl (by simp)) harr⟩
  | panic ch => exact ⟨_, a₁, w₁, hq, .pass (x := .inLoop code) rfl (fun _ _ => .inl (by simp)) harr⟩
  | outgrown => exact ⟨_, a₁, w₁, hq, .pass (x := .inLoop code) rfl (fun _ _ => .inl (by simp)) harr⟩

/-- What a code writes, of its frame. -/
def dsts : Code → List Nat
  | .region _ ops _ => ops.toList.filterMap (·.dst)
  | .seq a b => dsts a ++ dsts b
  | .cond _ a b => dsts a ++ dsts b
  | .block _ a => dsts a
  | .loop a => dsts a
  | _ => []

theorem dsts_region {ops : Array Oper} {l : List (Nat × Value)} (h : ∀ t ∈ ops.toList.filterMap (·.dst), ∀ p ∈ l, p.1 ≠ t) : ∀ o ∈ ops.toList, ∀ t, o.dst = some t → ∀ p ∈ l, p.1 ≠ t :=
  fun o ho t ht => h t (List.mem_filterMap.2 ⟨o, ho, ht⟩)

theorem aw_sound {P : Program} {kl : Nat → List Nat} {ow : Nat → Nat → Bool} {n : Nat} (hmix : P.follows .mixedOrders = true) : ∀ (code : Code) (ac : AC), comp P kl ow n code = some ac →
    ∀ (c : Cx) (env : Env) (a : Act) (K : AK) (Q : Exit → Act → World → Prop), (∀ t ∈ dsts code, ∀ p ∈ c.ds.2, p.1 ≠ t) → RS c n env a → RH c → aw P ac K env c.H →
      (∀ (e : AEx) (d : Cx) (env' : Env) (a' : Act), c.Le d → RH d → RS d n env' a' → K e env' d.H → Q e.toExit a' d.w) → code.wp P Q a c.w := by
  intro code
  induction code with
  | skip =>
    intro ac hc c env a K Q hkp hs hh h hQ
    simp only [comp, Option.some.injEq] at hc
    subst hc
    exact wp_skip (hQ .norm c env a (Cx.Le.refl c) hh hs h)
  | ret =>
    intro ac hc c env a K Q hkp hs hh h hQ
    simp only [comp, Option.some.injEq] at hc
    subst hc
    exact wp_ret (hQ .ret c env a (Cx.Le.refl c) hh hs h)
  | exit id =>
    intro ac hc c env a K Q hkp hs hh h hQ
    simp only [comp, Option.some.injEq] at hc
    subst hc
    exact wp_exit (hQ (.exit id) c env a (Cx.Le.refl c) hh hs h)
  | region id ops draw =>
    intro ac hc c env a K Q hkp hs hh h hQ
    cases draw with
    | false =>
      simp only [comp] at hc
      split at hc
      · rename_i ais hl
        injection hc with hc
        subst hc
        refine wp_region_list ?_
        exact awOps_sound c (fun d env' a' hle hrh hrs hk => hQ .norm d _ a' hle hrh (hrs.kill _) hk) (fun d pv a' hle hrh hrs hk => hQ (.pan pv) d [] a' hle hrh hrs hk) _ _ _ (dsts_region hkp) hl c env a (Cx.Le.refl c) hs hh h
      · cases hc
    | true =>
      simp only [comp] at hc
      split at hc
      · rename_i ais hl
        injection hc with hc
        subst hc
        refine wp_region_any hmix ?_
        simp only [aw] at h
        have hlen : (ais.zip (ops.toList.map aftersOf)).length = ops.size := by
          have := (compL_at _ _ _ hl).1
          simp [this]
        rw [hlen] at h
        let c1 : Cx := { c with w := c.w.drew }
        have hle : c.Le c1 := ⟨rfl, Nat.le_refl _, fun a u hr => hr, fun _ _ => rfl, rfl, rfl, rfl, rfl, fun b n s e _ hr => .inl ⟨hr, rfl⟩⟩
        have hh1 : RH c1 := ⟨hh.base, hh.new, hh.lt, hh.ge, hh.x.keep rfl (Nat.le_refl _) (fun _ _ _ => ⟨rfl, rfl⟩) (fun _ _ _ hx => hx) (fun _ _ hn => hn), fun b v hb => by obtain ⟨p, cs, e, q1, q2⟩ := hh.box b v hb; exact ⟨p, cs, e, q1, q2.mono hle⟩, hh.row⟩
        exact awAny_sound hl c (dsts_region hkp) (fun d env' a' hle hrh hrs hk => hQ .norm d _ a' hle hrh (hrs.kill _) hk) (fun d pv a' hle hrh hrs hk => hQ (.pan pv) d [] a' hle hrh hrs hk)
          ops.size (Array.replicate ops.size false) [] c1 env a (by simp) (fun i => by
            rw [Array.getD_eq_getD_getElem?, Array.getElem?_replicate]
            split
            · rename_i hi; simp; omega
            · rename_i hi; simp; omega) (by simp) hle (hs.mono hle) hh1 h
      · cases hc
  | seq x y ihx ihy =>
    intro ac hc c env a K Q hkp hs hh h hQ
    simp only [comp] at hc
    split at hc
    · rename_i x' y' hx hy
      injection hc with hc
      subst hc
      refine wp_seq ?_
      refine ihx x' hx c env a _ _ (fun t ht => hkp t (by simp [dsts, ht])) hs hh h fun e d env' a' hle hrh hrs hk => ?_
      cases e with
      | norm => exact ihy y' hy d env' a' K Q (by rw [hle.ds]; exact fun t ht => hkp t (by simp [dsts, ht])) hrs hrh hk fun e d' env'' a'' hle' hrh' hrs' hk' => hQ e d' env'' a'' (hle.trans hle') hrh' hrs' hk'
      | exit id => exact hQ (.exit id) d env' a' hle hrh hrs hk
      | ret => exact hQ .ret d env' a' hle hrh hrs hk
      | pan v => exact hQ (.pan v) d env' a' hle hrh hrs hk
    · cases hc
  | cond x p q ihp ihq =>
    intro ac hc c env a K Q hkp hs hh h hQ
    simp only [comp] at hc
    split at hc
    · rename_i z p' q' hz hp' hq'
      injection hc with hc
      subst hc
      simp only [aw] at h
      split at h
      · rename_i t ht
        have hv := compOpd_rep hz hs
        rw [ht] at hv
        refine wp_cond_split hv.bool (fun e => ?_) (fun e => ?_)
        · exact ihp p' hp' c env a K Q (fun t ht => hkp t (by simp [dsts, ht])) hs hh (h.1 e) hQ
        · exact ihq q' hq' c env a K Q (fun t ht => hkp t (by simp [dsts, ht])) hs hh (h.2 e) hQ
      · exact h.elim
    · cases hc
  | block id x ihx =>
    intro ac hc c env a K Q hkp hs hh h hQ
    simp only [comp] at hc
    split at hc
    · rename_i x' hx
      injection hc with hc
      subst hc
      refine wp_block ?_
      refine ihx x' hx c env a _ _ hkp hs hh h fun e d env' a' hle hrh hrs hk => ?_
      cases e with
      | norm => exact hQ .norm d env' a' hle hrh hrs hk
      | exit i =>
        simp only [blockK] at hk
        simp only [AEx.toExit, Exit.inBlock]
        split at hk
        · rename_i hi; rw [if_pos hi]; exact hQ .norm d env' a' hle hrh hrs hk
        · rename_i hi; rw [if_neg hi]; exact hQ (.exit i) d env' a' hle hrh hrs hk
      | ret => exact hQ .ret d env' a' hle hrh hrs hk
      | pan v => exact hQ (.pan v) d env' a' hle hrh hrs hk
    · cases hc
  | loop x ihx =>
    intro ac hc c env a K Q hkp hs hh h hQ
    simp only [comp] at hc
    split at hc
    · rename_i x' hx
      injection hc with hc
      subst hc
      have key := h (fun env' H' => ∀ (d : Cx) (a' : Act), d.H = H' → c.Le d → RH d → RS d n env' a' → x.wp P (Exit.then (LWp P x Q) Q) a' d.w) fun env' H' hb d a' hdH hle hrh hrs => by
        subst hdH
        refine ihx x' hx d env' a' _ _ (by rw [hle.ds]; exact hkp) hrs hrh hb fun e d' env'' a'' hle' hrh' hrs' hk' => ?_
        cases e with
        | norm =>
          have hw := hk' d' a'' rfl (hle.trans hle') hrh' hrs'
          intro b k cs
          obtain ⟨e, a2, w2, hq, harr⟩ := lwp_of_body hw b k cs
          exact ⟨e, a2, w2, hq, .of_steps (.one step_inLoop) harr⟩
        | exit id => exact hQ (.exit id) d' env'' a'' (hle.trans hle') hrh' hrs' hk'
        | ret => exact hQ .ret d' env'' a'' (hle.trans hle') hrh' hrs' hk'
        | pan v => exact hQ (.pan v) d' env'' a'' (hle.trans hle') hrh' hrs' hk'
      have hw := key (fun env1 H1 env2 H2 he hle1 hx d a' hd hle hrh hrs => by
        subst hd
        exact hx { d with H := H2 } a' rfl (hle.trans (Cx.Le.weaken hle1)) (hrh.weaken hle1) ((hrs.weaken he).mono (Cx.Le.weaken hle1))) c a rfl (Cx.Le.refl c) hh hs
      intro b k cs
      obtain ⟨e, a2, w2, hq, harr⟩ := lwp_of_body hw b k cs
      exact ⟨e, a2, w2, hq, .of_steps (.one step_loop) harr⟩
    · cases hc
  | _ => intro ac hc; simp only [comp, reduceCtorEq] at hc
end Go.Av

namespace Go.Av

theorem aop_mono {P : Program} {H : AHeap} {env : Env} {op : AOp} {K K' : AV → AHeap → Prop} {Kp Kp' : Value → AHeap → Prop} (hK : ∀ v H, K v H → K' v H) (hp : ∀ v H, Kp v H → Kp' v H) (h : aop P H env op K Kp) : aop P H env op K' Kp' := by
  cases op
  case alloc => exact fun b hb => hK _ _ (h b hb)
  case allb => exact fun b hb => hK _ _ (h b hb)
  case box => exact ⟨h.1, fun b hb => hK _ _ (h.2 b hb)⟩
  case st =>
    simp only [aop] at h ⊢
    split at h
    · split at h
      · obtain ⟨v, h1, h2, h3⟩ := h; exact ⟨v, h1, h2, hK _ _ h3⟩
      · exact h.elim
    · exact h.elim
  case call =>
    simp only [aop] at h ⊢
    split at h
    · exact h.mono fun r H' hr => by cases r <;> first | exact hK _ _ hr | exact hp _ _ hr
    · exact h.elim
  case bsl =>
    simp only [aop] at h ⊢
    refine ⟨h.1, ?_⟩
    split
    · exact hK _ _ h.2
    · exact fun b hb => hK _ _ (h.2 b hb)
  case app =>
    simp only [aop] at h ⊢
    split at h
    · refine ⟨h.1, ?_⟩
      have h := h.2
      split at h
      · exact ⟨h.1, fun b hb => hK _ _ (h.2 b hb)⟩
      · exact ⟨h.1, fun e => hK _ _ (h.2.1 e), fun e b hb => hK _ _ (h.2.2 e b hb)⟩
      · exact h.elim
    · exact h.elim
  case pan =>
    simp only [aop] at h ⊢
    split at h
    · exact hp _ _ h
    · exact h.elim
  case s2b =>
    simp only [aop] at h ⊢
    split at h
    · exact hK _ _ h
    · exact h.elim
  case mkm => exact fun b hb => hK _ _ (h b hb)
  case mpl =>
    simp only [aop] at h ⊢
    split at h
    · split at h
      · exact hK _ _ h
      · exact h.elim
    · exact h.elim
  case mpu =>
    simp only [aop] at h ⊢
    split at h
    · split at h
      · exact ⟨h.1, hK _ _ h.2⟩
      · exact h.elim
    · exact h.elim
  all_goals (simp only [aop] at h ⊢; exact aval_mono (fun v hv => hK v H hv) h)

theorem awOp_mono {P : Program} {ai : AI} {K K' : Env → AHeap → Prop} {Kp Kp' : Value → AHeap → Prop} {env : Env} {H : AHeap} (hK : ∀ e H, K e H → K' e H) (hp : ∀ v H, Kp v H → Kp' v H) (h : awOp P ai K Kp env H) : awOp P ai K' Kp' env H := by
  unfold awOp at h ⊢
  split
  · rename_i hg; rw [hg] at h; exact aop_mono (fun v H hv => hK _ _ hv) hp h
  · rename_i s want hg
    rw [hg] at h
    simp only at h
    split at h
    · exact ⟨fun e => aop_mono (fun v H hv => hK _ _ hv) hp (h.1 e), fun e => hK _ _ (h.2 e)⟩
    · exact hK _ _ h
    · exact h.elim

theorem awOps_mono {P : Program} {K K' : Env → AHeap → Prop} {Kp Kp' : Value → AHeap → Prop} (hK : ∀ e H, K e H → K' e H) (hp : ∀ v H, Kp v H → Kp' v H) : ∀ (ops : List AI) (env : Env) (H : AHeap), awOps P ops K Kp env H → awOps P ops K' Kp' env H
  | [], env, H, h => hK _ _ h
  | ai :: ops, env, H, h => awOp_mono (fun e H he => awOps_mono hK hp ops e H he) hp h

theorem awAny_mono {P : Program} {ops : List (AI × List Nat)} {K K' : Env → AHeap → Prop} {Kp Kp' : Value → AHeap → Prop} (hK : ∀ e H, K e H → K' e H) (hp : ∀ v H, Kp v H → Kp' v H) : ∀ (f : Nat) (listed : List Nat) (env : Env) (H : AHeap), awAny P ops K Kp f listed env H → awAny P ops K' Kp' f listed env H
  | 0, listed, env, H, h => ⟨h.1, hK _ _ h.2⟩
  | f + 1, listed, env, H, h => by
    refine ⟨fun e => hK _ _ (h.1 e), fun i hi => ?_⟩
    have := h.2 i hi
    split at this
    · exact awOp_mono (fun e H he => awAny_mono hK hp f _ e H he) hp this
    · exact this.elim

theorem aw_mono {P : Program} : ∀ (ac : AC) {K K' : AK} (hK : ∀ e env H, K e env H → K' e env H) (env : Env) (H : AHeap), aw P ac K env H → aw P ac K' env H := by
  intro ac
  induction ac with
  | skip => exact fun hK env H h => hK _ _ _ h
  | ret => exact fun hK env H h => hK _ _ _ h
  | exit id => exact fun hK env H h => hK _ _ _ h
  | reg ops kill => exact fun hK env H h => awOps_mono (fun e H he => hK _ _ _ he) (fun v H hv => hK _ _ _ hv) ops env H h
  | dreg ops kill => exact fun hK env H h => awAny_mono (fun e H he => hK _ _ _ he) (fun v H hv => hK _ _ _ hv) _ _ env H h
  | seq a b iha ihb =>
    intro K K' hK env H h
    refine iha (fun e env H he => ?_) env H h
    cases e with
    | norm => exact ihb hK env H he
    | exit id => exact hK _ _ _ he
    | ret => exact hK _ _ _ he
    | pan v => exact hK _ _ _ he
  | cond x a b iha ihb =>
    intro K K' hK env H h
    simp only [aw] at h ⊢
    split at h
    · exact ⟨fun e => iha hK env H (h.1 e), fun e => ihb hK env H (h.2 e)⟩
    · exact h.elim
  | block id a iha =>
    intro K K' hK env H h
    refine iha (fun e env H he => ?_) env H h
    cases e with
    | norm => exact hK _ _ _ he
    | exit i =>
      simp only [blockK] at he ⊢
      split
      · rename_i hi; rw [if_pos hi] at he; exact hK _ _ _ he
      · rename_i hi; rw [if_neg hi] at he; exact hK _ _ _ he
    | ret => exact hK _ _ _ he
    | pan v => exact hK _ _ _ he
  | loop a iha =>
    intro K K' hK env H h X hX hW
    refine h X (fun env' H' hb => hX env' H' (iha (fun e env H he => ?_) env' H' hb)) hW
    cases e with
    | norm => exact he
    | exit i => exact hK _ _ _ he
    | ret => exact hK _ _ _ he
    | pan v => exact hK _ _ _ he

/-- A loop, by an invariant over states of one's own, and a measure. -/
theorem aw_loop {σ : Type} {P : Program} {a : AC} {K : AK} (Inv : σ → Prop) (E : σ → Env) (Hp : σ → AHeap) (μ : σ → Nat)
    (hstep : ∀ x, Inv x → aw P a (thenK (fun env' H' => ∃ y, Inv y ∧ μ y < μ x ∧ EnvLe env' (E y) ∧ HLe (Hp y) H') K) (E x) (Hp x))
    {env : Env} {H : AHeap} (h0 : ∃ x, Inv x ∧ EnvLe env (E x) ∧ HLe (Hp x) H) : aw P (.loop a) K env H := by
  intro X hX hW
  have key : ∀ (m : Nat) (x : σ), μ x < m → Inv x → X (E x) (Hp x) := by
    intro m
    induction m with
    | zero => intro x hx; omega
    | succ m ih =>
      intro x hx hi
      refine hX _ _ (aw_mono a (fun e env' H' he => ?_) _ _ (hstep x hi))
      cases e with
      | norm =>
        obtain ⟨y, hy, hm, e1, e2⟩ := he
        exact hW _ _ _ _ e1 e2 (ih y (by omega) hy)
      | exit i => exact he
      | ret => exact he
      | pan v => exact he
  obtain ⟨x, hx, e1, e2⟩ := h0
  exact hW _ _ _ _ e1 e2 (key (μ x + 1) x (by omega) hx)

/-! ### Functions -/

inductive ARV where
  | tmp (t : Nat)
  | cell (a : Nat) (agg : Bool) (sz : Nat)
  deriving Inhabited

def compRes (P : Program) : List ResultVar → Option (List ARV)
  | [] => some []
  | .tmp t :: rs => match compRes P rs with
    | some l => some (.tmp t :: l)
    | none => none
  | .cell a t :: rs => match aggOf P t, szOf P t, compRes P rs with
    | some g, some s, some l => some (.cell a g s :: l)
    | _, _, _ => none

/-- The results, one by one. -/
def resK (env : Env) (H : AHeap) : List ARV → (List AV → Prop) → Prop
  | [], k => k []
  | .tmp t :: rs, k => resK env H rs fun l => (env.get t).sto = true ∧ k (env.get t :: l)
  | .cell a g s :: rs, k => match env.get a with
    | .ptr b off p => match H b with
      | some (.box c) => ∃ v, c.at_ p = some v ∧ (c.offs p = off ∧ v.size = s ∧ v.isAgg = g) ∧ resK env H rs fun l => k (v :: l)
      | _ => False
    | _ => False

def resV : List AV → AV
  | [v] => v
  | l => .tuple l

def retK (rs : List ARV) (post : ARes → AHeap → Prop) : AK
  | .norm, env, H => resK env H rs fun l => ∃ v' H', Sub (resV l) v' ∧ HLe H' H ∧ post (.ret v') H'
  | .ret, env, H => resK env H rs fun l => ∃ v' H', Sub (resV l) v' ∧ HLe H' H ∧ post (.ret v') H'
  | .pan pv, _, H => ∃ H', HLe H' H ∧ post (.pan pv) H'
  | .exit _, _, _ => False

def argEnv : Nat → List AV → Env
  | _, [] => []
  | k, v :: vs => (k, v) :: argEnv (k + 1) vs

theorem argEnv_get : ∀ (l : List AV) (k i : Nat), (argEnv k l).get i = if i < k then .undef else (l[i - k]?).getD .undef
  | [], k, i => by simp [argEnv, Env.get]
  | v :: l, k, i => by
    simp only [argEnv, Env.get]
    split
    · rename_i h; subst h; simp
    · rename_i h
      rw [argEnv_get l (k + 1) i]
      by_cases hi : i < k
      · rw [if_pos hi, if_pos (by omega)]
      · rw [if_neg hi, if_neg (by omega), show i - k = (i - (k + 1)) + 1 from by omega]
        simp

def resSem (tmps : Array Value) : ResultVar → Sem Value
  | .tmp t => pure (tmps.getD t undef)
  | .cell a t => do loadVar t (← asAddr (tmps.getD a undef))

theorem results_eq (fn : Func) (tmps : Array Value) : results fn tmps = (do let vs ← fn.results.mapM (resSem tmps); pure (if h : vs.size = 1 then vs[0] else .tuple vs)) := by
  unfold results
  congr 1

theorem resK_sound {P : Program} {c : Cx} {n : Nat} {env : Env} {a : Act} (hs : RS c n env a) (hh : RH c) : ∀ (rs : List ResultVar) (l : List ARV) (k : List AV → Prop), compRes P rs = some l → resK env c.H l k →
    ∃ (vs : List AV) (us : List Value), k vs ∧ us.length = vs.length ∧ (∀ (j : Nat) (x : AV) (y : Value), vs[j]? = some x → us[j]? = some y → Rep1 c x y) ∧
      (rs.mapM (resSem a.tmps)).run P c.w = .ok us c.w
  | [], l, k, hc, h => by
    simp only [compRes, Option.some.injEq] at hc
    subst hc
    exact ⟨[], [], h, rfl, fun j x y hx => by simp at hx, rfl⟩
  | .tmp t :: rs, l, k, hc, h => by
    simp only [compRes] at hc
    split at hc
    · rename_i l' hl
      injection hc with hc
      subst hc
      obtain ⟨vs, us, hk, e1, e2, e3⟩ := resK_sound hs hh rs l' _ hl h
      refine ⟨_, a.tmps.getD t undef :: us, hk.2, by simp [e1], fun j x y hx hy => ?_, ?_⟩
      · cases j with
        | zero =>
          simp only [List.getElem?_cons_zero, Option.some.injEq] at hx hy
          subst hx hy
          exact (hs.rep t).one hk.1
        | succ j => exact e2 j x y (by simpa using hx) (by simpa using hy)
      · simp only [List.mapM_cons, resSem, Sem.run_bind, Sem.run_pure, Result.andThen_ok, e3]
    · cases hc
  | .cell a' t :: rs, l, k, hc, h => by
    simp only [compRes] at hc
    split at hc
    · rename_i g s l' hg hsz hl
      injection hc with hc
      subst hc
      simp only [resK] at h
      split at h
      · rename_i b off p he
        split at h
        · rename_i ct hb
          obtain ⟨v, hat, ⟨ho, rfl, rfl⟩, h⟩ := h
          obtain ⟨vs, us, hk, e1, e2, e3⟩ := resK_sound hs hh rs l' _ hl h
          have hptr := hs.rep a'
          rw [he] at hptr
          obtain ⟨cs, _, hheap, hr, hcell⟩ := hh.boxCells hb
          obtain ⟨pre, mid, post, ec, el, hm, _⟩ := path_part p hr hat
          obtain ⟨u, hrun, hrep⟩ := run_loadAt_rep (P := P) (w := c.w) (ad := ⟨b, off, none⟩) hm (fun i u hu => by
            rw [Addr.add_mid]
            refine hcell _ _ ?_
            have hi : i < mid.length := (List.getElem?_eq_some_iff.1 hu).1
            rw [ec, List.append_assoc, ← ho, ← el, List.getElem?_append_right (by omega), show pre.length + i - pre.length = i from by omega, List.getElem?_append_left hi]
            exact hu) hg hsz
          refine ⟨v :: vs, u :: us, hk, by simp [e1], fun j x y hx hy => ?_, ?_⟩
          · cases j with
            | zero =>
              simp only [List.getElem?_cons_zero, Option.some.injEq] at hx hy
              subst hx hy
              exact hrep
            | succ j => exact e2 j x y (by simpa using hx) (by simpa using hy)
          · have hrun' : (loadVar t ⟨b, off, none⟩).run P c.w = .ok u c.w := by
              simpa [Instr.loadAt, Instr.sureAddr] using hrun
            have hadr : (asAddr (a.tmps.getD a' undef)).run P c.w = .ok ⟨b, off, none⟩ c.w := by rw [hptr.ptr]; rfl
            simp only [List.mapM_cons, resSem, Sem.run_bind, hadr, Sem.run_pure, Result.andThen_ok, hrun', e3]
        · exact h.elim
      · exact h.elim
    · cases hc

theorem resV_rep {d : Cx} : ∀ (vs : List AV) (us : List Value), us.length = vs.length → (∀ (j : Nat) (x : AV) (y : Value), vs[j]? = some x → us[j]? = some y → Rep1 d x y) →
    RepV d (resV vs) (if h : us.toArray.size = 1 then us.toArray[0] else .tuple us.toArray)
  | [v], [u], _, h => (h 0 v u rfl rfl).v
  | [], [], e, h => .inr (.inr ⟨[], [], rfl, rfl, e, h⟩)
  | v :: w :: vs, u :: u' :: us, e, h => by
    have : ¬ (u :: u' :: us).toArray.size = 1 := by simp
    rw [dif_neg this]
    exact .inr (.inr ⟨v :: w :: vs, u :: u' :: us, rfl, rfl, e, h⟩)
  | [v], u :: u' :: us, e, _ => by simp at e
  | [], u :: us, e, _ => by simp at e
  | v :: vs, [], e, _ => by simp at e
  | v :: w :: vs, [u], e, _ => by simp at e

def Cx.with (c : Cx) (l : List Deferred × List (Nat × Value)) : Cx := { c with ds := l }

theorem RepC.with {c : Cx} (l : List Deferred × List (Nat × Value)) {v : AV} {cs : List Value} (hr : RepC c v cs) : RepC (c.with l) v cs := by
  induction hr with
  | bool b => exact .bool b
  | int k n => exact .int k n
  | str s hs => exact .str s hs
  | snil => exact .snil
  | scons _ _ i1 i2 => exact .scons i1 i2
  | list css hc hm _ hs ha ih => exact .list css hc hm ih hs ha
  | own css hc hm _ hs ha hb ho ih => exact .own css hc hm ih hs ha hb ho
  | ptr b off path => exact .ptr b off path
  | view _ ha ih => exact .view ih ha
  | fn h1 h2 _ a1 _ a2 i1 i2 => exact .fn h1 h2 i1 a1 i2 a2
  | iface _ a ih => exact .iface ih a
  | nils => exact .nils
  | nilp => exact .nilp
  | nilf => exact .nilf
  | nili => exact .nili
  | mapp b => exact .mapp b

theorem Rep1.with {c : Cx} (l : List Deferred × List (Nat × Value)) {v : AV} {u : Value} (hr : Rep1 c v u) : Rep1 (c.with l) v u := ⟨hr.1.with l, hr.2⟩

theorem RepV.with {c : Cx} (l : List Deferred × List (Nat × Value)) {v : AV} {u : Value} (hr : RepV c v u) : RepV (c.with l) v u :=
  hr.imp id fun h' => h'.imp (Rep1.with l) fun ⟨vs, us, e1, e2, e3, e4⟩ => ⟨vs, us, e1, e2, e3, fun j x y hx hy => (e4 j x y hx hy).with l⟩

theorem RH.with {c : Cx} (l : List Deferred × List (Nat × Value)) (h : RH c) : RH (c.with l) where
  base := h.base
  new := h.new
  lt := h.lt
  ge := h.ge
  x := h.x.keep rfl (Nat.le_refl _) (fun _ _ _ => ⟨rfl, rfl⟩) (fun _ _ _ hx => hx) (fun _ _ hn => hn)
  box := fun b v hb => by
    obtain ⟨p, cs, e, q1, q2⟩ := h.box b v hb
    exact ⟨p, cs, e, q1, q2.with l⟩
  row := h.row

theorem Cx.Le.with {c d : Cx} {l : List Deferred × List (Nat × Value)} (h : (c.with l).Le d) : c.Le (d.with c.ds) where
  base := h.base
  size := h.size
  rd := h.rd
  old := h.old
  os := h.os
  tape := h.tape
  output := h.output
  ds := rfl
  row := h.row

/-- A part of a function's code, by its place. -/
def codeAt : Code → List Nat → Code
  | c, [] => c
  | .seq a b, i :: p => codeAt (if i = 0 then a else b) p
  | .cond _ a b, i :: p => codeAt (if i = 0 then a else b) p
  | c, _ :: _ => c
def bodyOf (fn : Func) : Code := fn.body.getD .skip

/-- HOW A FUNCTION's CONTRACT IS PROVED: its code, compiled, on the abstract arguments. -/
theorem ACalls.enter {P : Program} {f : FuncId} {fn : Func} {code : Code} {ac : AC} {kl : Nat → List Nat} {ow : Nat → Nat → Bool} {rs : List ARV} (hf : P.funcs[f]? = some fn) (hb : fn.body = some code) (hname : (fn.name != "runtime.NumGoroutine") = true)
    (hmix : P.follows .mixedOrders = true) (hc : comp P kl ow fn.ntmps code = some ac) (hr : compRes P fn.results.toList = some rs) {args : List AV} (ha : args.length ≤ fn.ntmps) {H : AHeap} {post : ARes → AHeap → Prop}
    (h : aw P ac (retK rs post) (argEnv 0 args) H) : ACalls P f args H post := by
  refine ⟨by simp [hasBody, hf, hb]; simpa using hname, fun c us hH hh hl hrep => ?_⟩
  subst hH
  refine Calls.mono (R := fun e w' => ∃ d : Cx, d.w = w' ∧ (c.with ([], [])).Le d ∧ RH d ∧
      match e with
      | .returned u => ∃ v, post (.ret v) d.H ∧ RepV d v u
      | .panicked chain => ∃ pv, chain = [{ v := pv, recovered := false }] ∧ post (.pan pv) d.H
      | .outgrown => False) ?_ fun e w' ⟨d, e1, e2, e3, e4⟩ => ⟨d.with c.ds, e1, e2.with, e3.with _, by
    cases e with
    | returned u => obtain ⟨v, p, q⟩ := e4; exact ⟨v, p, q.with _⟩
    | panicked ch => exact e4
    | outgrown => exact e4⟩
  refine calls_of_wp hf hb ?_
  have hrep : ∀ (j : Nat) (v : AV) (u : Value), args[j]? = some v → us[j]? = some u → RepV (c.with ([], [])) v u := fun j v u h1 h2 => (hrep j v u h1 h2).with _
  have hh := hh.with ([], [])
  have hds : (c.with ([], [])).ds = ([], []) := rfl
  have hcw : (c.with ([], [])).w = c.w := rfl
  have h : aw P ac (retK rs post) (argEnv 0 args) (c.with ([], [])).H := h
  rw [← hcw]
  generalize c.with ([], []) = c at *
  have hlu : us.toArray.size = args.length := by simp [hl]
  have hs : RS c fn.ntmps (argEnv 0 args) { tmps := us.toArray ++ Array.replicate (fn.ntmps - us.toArray.size) undef, defers := [] } := by
    refine ⟨fun i => ?_, by simp; omega, by rw [hds], by rw [hds]; intro p hp; cases hp⟩
    rw [argEnv_get]
    simp only [Nat.not_lt_zero, if_false, Nat.sub_zero]
    rcases Nat.lt_or_ge i args.length with hi | hi
    · have h1 := List.getElem?_eq_getElem hi
      have hiu : i < us.length := by omega
      have h2 := List.getElem?_eq_getElem hiu
      have := hrep i _ _ h1 h2
      rw [h1]
      have e : (us.toArray ++ Array.replicate (fn.ntmps - us.toArray.size) undef).getD i undef = us[i] := by
        rw [Array.getD_eq_getD_getElem?, Array.getElem?_append_left (by simpa using hiu)]
        simp [hiu]
      simp only [e, Option.getD_some]
      exact this
    · rw [List.getElem?_eq_none hi]
      exact .inl rfl
  refine aw_sound hmix code ac hc c (argEnv 0 args) _ (retK rs post) _ (by rw [hds]; intro t _ p hp; cases hp) hs hh h fun e d env' a' hle hrh hrs hk => ?_
  have hdef : a'.defers = [] := by rw [hrs.defers, hle.ds, hds]
  have done : (resK env' d.H rs fun l => ∃ v' H', Sub (resV l) v' ∧ HLe H' d.H ∧ post (.ret v') H') →
      ∃ v, (results fn a'.tmps).run P d.w = .ok v d.w ∧ ∃ d' : Cx, d'.w = d.w ∧ c.Le d' ∧ RH d' ∧ ∃ x, post (.ret x) d'.H ∧ RepV d' x v := by
    intro hres
    obtain ⟨vs, us', hkv, e1, e2, e3⟩ := resK_sound (P := P) hrs hrh _ _ _ hr hres
    obtain ⟨v', H', hsub, hle', hpost⟩ := hkv
    have e3' : (fn.results.mapM (resSem a'.tmps)).run P d.w = .ok us'.toArray d.w := by
      rw [show fn.results = fn.results.toList.toArray from by simp]
      simp only [List.mapM_toArray]
      rw [Sem.run_map, e3]
      rfl
    have hrun : (results fn a'.tmps).run P d.w = .ok (if h : us'.toArray.size = 1 then us'.toArray[0] else .tuple us'.toArray) d.w := by
      rw [results_eq, Sem.run_bind, e3']
      rfl
    have hrepv : RepV d (resV vs) (if h : us'.toArray.size = 1 then us'.toArray[0] else .tuple us'.toArray) := by
      exact resV_rep vs us' e1 e2
    refine ⟨_, hrun, { d with H := H' }, rfl, hle.trans (Cx.Le.weaken hle'), hrh.weaken hle', v', hpost, ?_⟩
    exact (hrepv.sub hsub).mono (Cx.Le.weaken hle')
  cases e with
  | norm =>
    obtain ⟨v, hrun, d', e1, e2, e3, x, e4, e5⟩ := done hk
    exact ⟨hdef, v, hrun, d', e1, e2, e3, x, e4, e5⟩
  | ret =>
    obtain ⟨v, hrun, d', e1, e2, e3, x, e4, e5⟩ := done hk
    exact ⟨hdef, v, hrun, d', e1, e2, e3, x, e4, e5⟩
  | exit id => exact hk.elim
  | pan pv =>
    obtain ⟨H', hle', hpost⟩ := hk
    exact ⟨hdef, { d with H := H' }, rfl, hle.trans (Cx.Le.weaken hle'), hrh.weaken hle', pv, rfl, hpost⟩
end Go.Av

namespace Go.Av

section
variable {P : Program} {K : AK} {env : Env} {H : AHeap}

/-! Continuations, closed until they are applied. -/
def seqK (P : Program) (b : AC) (K : AK) : AK := thenK (fun env' H' => aw P b K env' H') K
theorem seqK_norm (b : AC) : seqK P b K .norm env H = aw P b K env H := Eq.trans rfl rfl
theorem seqK_ret (b : AC) : seqK P b K .ret env H = K .ret env H := Eq.trans rfl rfl
theorem seqK_exit (b : AC) (i : Nat) : seqK P b K (.exit i) env H = K (.exit i) env H := Eq.trans rfl rfl
theorem seqK_pan (b : AC) (v : Value) : seqK P b K (.pan v) env H = K (.pan v) env H := Eq.trans rfl rfl

theorem blockK_norm (i : Nat) : blockK i K .norm env H = K .norm env H := Eq.trans rfl rfl
theorem blockK_ret (i : Nat) : blockK i K .ret env H = K .ret env H := Eq.trans rfl rfl
theorem blockK_pan (i : Nat) (v : Value) : blockK i K (.pan v) env H = K (.pan v) env H := Eq.trans rfl rfl
theorem blockK_exit (i j : Nat) : blockK i K (.exit j) env H = if j = i then K .norm env H else K (.exit j) env H := Eq.trans rfl rfl

def regK (K : AK) (kill : List Nat) : Env → AHeap → Prop := fun env' H' => K .norm (env'.kill kill) H'
def panK (K : AK) : Value → AHeap → Prop := fun pv H' => K (.pan pv) [] H'
theorem regK_eq (kill : List Nat) : regK K kill env H = K .norm (env.kill kill) H := Eq.trans rfl rfl
theorem panK_eq (v : Value) : panK K v H = K (.pan v) [] H := Eq.trans rfl rfl

theorem aw_skip : aw P .skip K env H = K .norm env H := Eq.trans rfl rfl
theorem aw_ret : aw P .ret K env H = K .ret env H := Eq.trans rfl rfl
theorem aw_exit (i : Nat) : aw P (.exit i) K env H = K (.exit i) env H := Eq.trans rfl rfl
theorem aw_reg (ops : List AI) (kill : List Nat) : aw P (.reg ops kill) K env H = awOps P ops (regK K kill) (panK K) env H := Eq.trans rfl rfl
theorem aw_seq (a b : AC) : aw P (.seq a b) K env H = aw P a (seqK P b K) env H := Eq.trans rfl rfl
theorem aw_block (i : Nat) (a : AC) : aw P (.block i a) K env H = aw P a (blockK i K) env H := Eq.trans rfl rfl
theorem aw_cond_true {x : Opd} {a b : AC} (h : x.ev env = .bool true) : aw P (.cond x a b) K env H = aw P a K env H := by simp [aw, h]
theorem aw_cond_false {x : Opd} {a b : AC} (h : x.ev env = .bool false) : aw P (.cond x a b) K env H = aw P b K env H := by simp [aw, h]
def condQ (P : Program) (v : AV) (a b : AC) (K : AK) (env : Env) (H : AHeap) : Prop := match v with
  | .bool t => (t = true → aw P a K env H) ∧ (t = false → aw P b K env H)
  | _ => False
theorem aw_cond (x : Opd) (a b : AC) : aw P (.cond x a b) K env H = condQ P (x.ev env) a b K env H := Eq.trans rfl rfl
theorem condQ_true (a b : AC) : condQ P (.bool true) a b K env H = aw P a K env H := by simp [condQ]
theorem condQ_false (a b : AC) : condQ P (.bool false) a b K env H = aw P b K env H := by simp [condQ]
theorem condQ_split {t : Bool} {a b : AC} (h1 : t = true → aw P a K env H) (h2 : t = false → aw P b K env H) : condQ P (.bool t) a b K env H := ⟨h1, h2⟩
end

section
variable {P : Program} {K : Env → AHeap → Prop} {Kp : Value → AHeap → Prop} {env : Env} {H : AHeap}

def opK (P : Program) (rest : List AI) (K : Env → AHeap → Prop) (Kp : Value → AHeap → Prop) (env : Env) (d : Option Nat) : AV → AHeap → Prop := fun v H' => awOps P rest K Kp (putD env d v) H'
theorem opK_eq (rest : List AI) (d : Option Nat) (v : AV) : opK P rest K Kp env d v H = awOps P rest K Kp (putD env d v) H := Eq.trans rfl rfl
theorem awOps_nil : awOps P [] K Kp env H = K env H := Eq.trans rfl rfl
theorem awOps_cons (d : Option Nat) (op : AOp) (rest : List AI) : awOps P (⟨d, none, op⟩ :: rest) K Kp env H = aop P H env op (opK P rest K Kp env d) Kp := Eq.trans rfl rfl
def grdQ (P : Program) (v : AV) (want : Bool) (d : Option Nat) (op : AOp) (rest : List AI) (K : Env → AHeap → Prop) (Kp : Value → AHeap → Prop) (env : Env) (H : AHeap) : Prop := match v with
  | .bool b => (b = want → aop P H env op (opK P rest K Kp env d) Kp) ∧ (b = !want → awOps P rest K Kp (putD env d (.tuple [])) H)
  | .tuple [] => awOps P rest K Kp (putD env d (.tuple [])) H
  | _ => False
theorem awOps_grd (d : Option Nat) (s : Nat) (want : Bool) (op : AOp) (rest : List AI) : awOps P (⟨d, some (s, want), op⟩ :: rest) K Kp env H = grdQ P (env.get s) want d op rest K Kp env H := by
  show awOp P _ _ _ _ _ = _
  unfold awOp grdQ
  rfl
theorem grdQ_tt (d : Option Nat) (op : AOp) (rest : List AI) : grdQ P (.bool true) true d op rest K Kp env H = aop P H env op (opK P rest K Kp env d) Kp := by simp [grdQ]
theorem grdQ_ff (d : Option Nat) (op : AOp) (rest : List AI) : grdQ P (.bool false) false d op rest K Kp env H = aop P H env op (opK P rest K Kp env d) Kp := by simp [grdQ]
theorem grdQ_tf (d : Option Nat) (op : AOp) (rest : List AI) : grdQ P (.bool true) false d op rest K Kp env H = awOps P rest K Kp (putD env d (.tuple [])) H := by simp [grdQ]
theorem grdQ_ft (d : Option Nat) (op : AOp) (rest : List AI) : grdQ P (.bool false) true d op rest K Kp env H = awOps P rest K Kp (putD env d (.tuple [])) H := by simp [grdQ]
theorem grdQ_sk (want : Bool) (d : Option Nat) (op : AOp) (rest : List AI) : grdQ P (.tuple []) want d op rest K Kp env H = awOps P rest K Kp (putD env d (.tuple [])) H := Eq.trans rfl rfl
theorem putD_some (i : Nat) (v : AV) : putD env (some i) v = env.set i v := Eq.trans rfl rfl
theorem putD_none (v : AV) : putD env none v = env := Eq.trans rfl rfl
end

section
variable {P : Program} {K : AV → AHeap → Prop} {Kp : Value → AHeap → Prop} {env : Env} {H : AHeap}

theorem ev_t (i : Nat) : (Opd.t i).ev env = env.get i := Eq.trans rfl rfl
theorem ev_c (v : AV) : (Opd.c v).ev env = v := Eq.trans rfl rfl

theorem r_mov (x : Opd) : aop P H env (.mov x) K Kp = K (x.ev env) H := Eq.trans rfl rfl
theorem r_pick (c a b : Opd) : aop P H env (.pick c a b) K Kp = (match c.ev env with | .bool t => K (if t then a.ev env else b.ev env) H | _ => False) := Eq.trans rfl rfl
theorem r_ld (g : Bool) (s : Nat) (x : Opd) : aop P H env (.ld g s x) K Kp = (match x.ev env with
    | .view v => (v.size = s ∧ v.isAgg = g) ∧ K v H
    | .ptr b off p => match H b with
      | some (.box c) => ∃ v, c.at_ p = some v ∧ (c.offs p = off ∧ v.size = s ∧ v.isAgg = g) ∧ K v H
      | _ => False
    | _ => False) := Eq.trans rfl rfl
theorem r_nilc (x : Opd) : aop P H env (.nilc x) K Kp = (match x.ev env with
    | .view v => K (.view v) H
    | .ptr b off p => K (.ptr b off p) H
    | .fn (.func f) l1 l2 => K (.fn (.func f) l1 l2) H
    | _ => False) := Eq.trans rfl rfl
theorem r_bin (op : BinOp) (x y : Opd) : aop P H env (.bin op x y) K Kp = (match x.ev env, y.ev env with
    | .int k1 a, .int k2 b => if op = .shr then 0 ≤ b ∧ K (.int k1 (a.fdiv (2 ^ min b.toNat k1.bits))) H else k1 = k2 ∧ ibin op k1 a b fun v => K v H
    | .str a, .str b => sbin op a b fun v => K v H
    | _, _ => False) := Eq.trans rfl rfl
theorem r_beq (ne : Bool) (x y : Opd) : aop P H env (.beq ne x y) K Kp = (match x.ev env, y.ev env with
    | .bool a, .bool b => K (.bool (if ne then !(a == b) else a == b)) H
    | _, _ => False) := Eq.trans rfl rfl
theorem r_ieqn (ne : Bool) (x : Opd) : aop P H env (.ieqn ne x) K Kp = (match x.ev env with
    | .iface _ _ => K (.bool ne) H
    | .nili => K (.bool (!ne)) H
    | _ => False) := Eq.trans rfl rfl
theorem r_not (x : Opd) : aop P H env (.not x) K Kp = (match x.ev env with
    | .bool b => K (.bool !b) H
    | _ => False) := Eq.trans rfl rfl
theorem r_conv (kd : IntKind) (x : Opd) : aop P H env (.conv kd x) K Kp = (match x.ev env with
    | .int _ n => K (.int kd (kd.wrap n)) H
    | _ => False) := Eq.trans rfl rfl
theorem r_b2s (x : Opd) : aop P H env (.b2s x) K Kp = (match (x.ev env).asList with
    | some (_, l) => ∃ bs : List UInt8, l = bs.map (fun b => .int .u8 (b.toNat : Int)) ∧ K (.str bs) H
    | none => False) := Eq.trans rfl rfl
theorem r_fa (i off : Nat) (x : Opd) : aop P H env (.fa i off x) K Kp = (match x.ev env with
    | .ptr b o p => K (.ptr b (o + off) (p ++ [i])) H
    | .view (.struct fs) => ∃ v, fs[i]? = some v ∧ AV.sizes (fs.take i) = off ∧ K (.view v) H
    | _ => False) := Eq.trans rfl rfl
theorem r_fld (i off sz : Nat) (g : Bool) (x : Opd) : aop P H env (.fld i off sz g x) K Kp = (match x.ev env with
    | .struct fs => ∃ v, fs[i]? = some v ∧ (AV.sizes (fs.take i) = off ∧ v.size = sz ∧ v.isAgg = g) ∧ K v H
    | _ => False) := Eq.trans rfl rfl
theorem r_ixa (sz : Nat) (x i : Opd) : aop P H env (.ixa sz x i) K Kp = (match (x.ev env).asList, (i.ev env).asInt with
    | some (s, l), some n => (0 ≤ n ∧ s = sz) ∧ ∃ v, l[n.toNat]? = some v ∧ K (.view v) H
    | _, _ => False) := Eq.trans rfl rfl
theorem r_ix (x i : Opd) : aop P H env (.ix x i) K Kp = (match x.ev env, (i.ev env).asInt with
    | .str s, some n => 0 ≤ n ∧ ∃ c, s[n.toNat]? = some c ∧ K (.int .u8 (c.toNat : Int)) H
    | _, _ => False) := Eq.trans rfl rfl
theorem r_sls (x : Opd) (lo hi : Option Opd) : aop P H env (.sls x lo hi) K Kp = (match x.ev env with
    | .str s => lohi env s.length lo hi fun a b => K (.str ((s.take b).drop a)) H
    | _ => False) := Eq.trans rfl rfl
theorem r_sll (sz : Nat) (x : Opd) (lo hi : Option Opd) : aop P H env (.sll sz x lo hi) K Kp = (match (x.ev env).asList with
    | some (s, l) => (l = [] ∨ s = sz) ∧ lohi env l.length lo hi fun a b => K (.list sz ((l.take b).drop a)) H
    | none => False) := Eq.trans rfl rfl
theorem r_lenl (x : Opd) : aop P H env (.lenl x) K Kp = (match (x.ev env).asList with
    | some (_, l) => l.length ≤ maxLen → K (.int .i64 (l.length : Int)) H
    | none => False) := Eq.trans rfl rfl
theorem r_lens (x : Opd) : aop P H env (.lens x) K Kp = (match x.ev env with
    | .str s => s.length ≤ maxLen → K (.int .i64 (s.length : Int)) H
    | _ => False) := Eq.trans rfl rfl
theorem r_mn (x y : Opd) : aop P H env (.mn x y) K Kp = (match x.ev env, y.ev env with
    | .int k1 a, .int k2 b => k1 = k2 ∧ K (.int k1 (if b < a then b else a)) H
    | _, _ => False) := Eq.trans rfl rfl
theorem r_mx (x y : Opd) : aop P H env (.mx x y) K Kp = (match x.ev env, y.ev env with
    | .int k1 a, .int k2 b => k1 = k2 ∧ K (.int k1 (if a < b then b else a)) H
    | _, _ => False) := Eq.trans rfl rfl
theorem r_build (zs : List AV) (ps : List (Nat × Opd)) : aop P H env (.build zs ps) K Kp = (partsOk (zs.map AV.size) (ps.map fun p => (p.1, p.2.ev env)) ∧ K (.struct (setAll zs (ps.map fun p => (p.1, p.2.ev env)))) H) := Eq.trans rfl rfl
theorem r_ext (x : Opd) (i : Nat) : aop P H env (.ext x i) K Kp = (match x.ev env with
    | .tuple vs => ∃ v, vs[i]? = some v ∧ K v H
    | _ => False) := Eq.trans rfl rfl
theorem r_mkfn (f : Fn) (l1 l2 : List Opd) : aop P H env (.mkfn f l1 l2) K Kp = ((∀ x ∈ l1 ++ l2, (x.ev env).sto = true) ∧ K (.fn f (l1.map (Opd.ev env)) (l2.map (Opd.ev env))) H) := Eq.trans rfl rfl
theorem r_mkif (t : TypeId) (x : Opd) : aop P H env (.mkif t x) K Kp = ((x.ev env).sto = true ∧ K (.iface t (x.ev env)) H) := Eq.trans rfl rfl
theorem r_tas (t : TypeId) (x : Opd) : aop P H env (.tas t x) K Kp = (match x.ev env with
    | .iface t' v => t' = t ∧ K v H
    | _ => False) := Eq.trans rfl rfl
theorem r_neg (x : Opd) : aop P H env (.neg x) K Kp = (match x.ev env with
    | .int kd n => K (.int kd (kd.wrap (0 - n))) H
    | _ => False) := Eq.trans rfl rfl
theorem r_i2s (x : Opd) : aop P H env (.i2s x) K Kp = (match x.ev env with
    | .int _ n => K (.str (Utf8.encode n).data.toList) H
    | _ => False) := Eq.trans rfl rfl
theorem r_s2b (x : Opd) : aop P H env (.s2b x) K Kp = (match x.ev env with
    | .str s => K (.list 1 (s.map fun b => .int .u8 (b.toNat : Int))) H
    | _ => False) := Eq.trans rfl rfl
def allmQ (H : AHeap) (K : AV → AHeap → Prop) : Prop := ∀ b, H b = none → K (.mapp b) (H.set b (.mp []))
theorem r_mkm : aop P H env .mkm K Kp = allmQ H K := Eq.trans rfl rfl
theorem r_mpl (x y : Opd) : aop P H env (.mpl x y) K Kp = (match x.ev env, y.ev env with
    | .mapp b, .str s => match H b with
      | some (.mp l) => K (.tuple [.struct [], .bool (l.contains s)]) H
      | _ => False
    | _, _ => False) := Eq.trans rfl rfl
theorem r_mpu (m y x : Opd) : aop P H env (.mpu m y x) K Kp = (match m.ev env, y.ev env, x.ev env with
    | .mapp b, .str s, .struct [] => match H b with
      | some (.mp l) => l.contains s = false ∧ K .undef (H.set b (.mp (l ++ [s])))
      | _ => False
    | _, _, _ => False) := Eq.trans rfl rfl
def allocQ (H : AHeap) (K : AV → AHeap → Prop) (v : AV) : Prop := ∀ b, H b = none → K (.ptr b 0 []) (H.set b (.box v))
theorem r_alloc (z : AV) (e : TypeId) : aop P H env (.alloc z e) K Kp = allocQ H K z := Eq.trans rfl rfl
def allbQ (H : AHeap) (K : AV → AHeap → Prop) (T e : TypeId) : Prop := ∀ b, H b = none → K (.ptr b 0 []) (H.set b (.bld [] T e))
theorem r_allb (T e : TypeId) : aop P H env (.allb T e) K Kp = allbQ H K T e := Eq.trans rfl rfl
theorem r_box (x : Opd) (sz : Nat) (e : TypeId) : aop P H env (.box x sz e) K Kp = (((x.ev env).size = sz ∧ (x.ev env).sto = true) ∧ allocQ H K (x.ev env)) := Eq.trans rfl rfl
theorem r_st (sz : Nat) (p x : Opd) : aop P H env (.st sz p x) K Kp = (match p.ev env with
    | .ptr b off q => match H b with
      | some (.box c) => ∃ v0, c.at_ q = some v0 ∧ (c.offs q = off ∧ v0.size = sz ∧ (x.ev env).size = sz ∧ (x.ev env).sto = true) ∧ K .undef (H.set b (.box (c.put q (x.ev env))))
      | _ => False
    | _ => False) := Eq.trans rfl rfl
def callK (K : AV → AHeap → Prop) (Kp : Value → AHeap → Prop) : ARes → AHeap → Prop := fun r H' => match r with
  | .ret v => K v H'
  | .pan pv => Kp pv H'
theorem callK_ret (v : AV) : callK K Kp (.ret v) H = K v H := Eq.trans rfl rfl
theorem callK_pan (v : Value) : callK K Kp (.pan v) H = Kp v H := Eq.trans rfl rfl
theorem r_call (f : Opd) (xs : List Opd) : aop P H env (.call f xs) K Kp = (match f.ev env with
    | .fn (.func F) first cap => ACalls P F (first ++ xs.map (Opd.ev env) ++ cap) H (callK K Kp)
    | _ => False) := Eq.trans rfl rfl
theorem r_bsl (e : TypeId) (sz n : Nat) (z : AV) (ps : List (Nat × Opd)) : aop P H env (.bsl false e sz n z ps) K Kp = (partsOk ((List.replicate n z).map AV.size) (ps.map fun p => (p.1, p.2.ev env)) ∧ K (.list sz (setAll (List.replicate n z) (ps.map fun p => (p.1, p.2.ev env)))) H) := Eq.trans rfl rfl
def rowQ (H : AHeap) (K : AV → AHeap → Prop) (sz : Nat) (l : List AV) (e : TypeId) : Prop := ∀ b, H b = none → K (.own sz l b) (H.set b (.row l.length sz e))
theorem r_bso (e : TypeId) (sz n : Nat) (z : AV) (ps : List (Nat × Opd)) : aop P H env (.bsl true e sz n z ps) K Kp = (partsOk ((List.replicate n z).map AV.size) (ps.map fun p => (p.1, p.2.ev env)) ∧ ∀ b, H b = none → K (.own sz (setAll (List.replicate n z) (ps.map fun p => (p.1, p.2.ev env))) b) (H.set b (.row n sz e))) := Eq.trans rfl rfl
def appQ (H : AHeap) (K : AV → AHeap → Prop) (e : TypeId) (sz by_ : Nat) (s : AV) (xs : List AV) : Prop := match s with
  | .own s1 l b => (s1 = sz ∧ H b = some (.row l.length sz e) ∧ (l.length + xs.length) * by_ ≤ 140737488355328) ∧
    ∀ b', (b' = b ∨ H b' = none) → K (.own sz (l ++ xs) b') ((H.del b).set b' (.row (l.length + xs.length) sz e))
  | .nils => xs.length * by_ ≤ 140737488355328 ∧ (xs = [] → K .nils H) ∧ (xs ≠ [] → ∀ b, H b = none → K (.own sz xs b) (H.set b (.row xs.length sz e)))
  | _ => False
theorem r_app (e : TypeId) (sz by_ : Nat) (s x : Opd) : aop P H env (.app e sz by_ s x) K Kp = (match (x.ev env).asList with
    | some (s2, xs) => (xs = [] ∨ s2 = sz) ∧ appQ H K e sz by_ (s.ev env) xs
    | none => False) := Eq.trans rfl rfl
theorem r_pan (x : Opd) : aop P H env (.pan x) K Kp = (match x.ev env with
    | .iface t (.int kd n) => Kp (.iface t (.int kd n)) H
    | _ => False) := Eq.trans rfl rfl
end

/-! ### A slice that grows: nil, or a row of one's own -/

/-- In the heap H, which is H0 but for the row, the value v is the slice of the elements l: it may be appended to. -/
def Grows (H0 : AHeap) (e : TypeId) (sz : Nat) (l : List AV) (v : AV) (H : AHeap) : Prop :=
  (v = .nils ∧ l = [] ∧ H = H0) ∨ ∃ b, H0 b = none ∧ v = .own sz l b ∧ H = H0.set b (.row l.length sz e)

theorem Grows.nil (H0 : AHeap) (e : TypeId) (sz : Nat) : Grows H0 e sz [] .nils H0 := .inl ⟨rfl, rfl, rfl⟩

theorem set_del (H : AHeap) (b : Nat) (o : AObj) (h : H b = none) : (H.set b o).del b = H := by
  funext x
  simp only [AHeap.set, AHeap.del]
  split
  · rename_i e; rw [e, h]
  · rfl

theorem Grows.app {H0 H : AHeap} {e : TypeId} {sz by_ : Nat} {l xs : List AV} {v : AV} {K : AV → AHeap → Prop} (h : Grows H0 e sz l v H) (hb : (l.length + xs.length) * by_ ≤ 140737488355328)
    (hK : ∀ v' H', Grows H0 e sz (l ++ xs) v' H' → K v' H') : appQ H K e sz by_ v xs := by
  rcases h with ⟨rfl, rfl, rfl⟩ | ⟨b, hb0, rfl, rfl⟩
  · refine ⟨by simpa using hb, fun e => hK _ _ (.inl ⟨rfl, by simp [e], rfl⟩), fun hne b hb => hK _ _ (.inr ⟨b, hb, by simp, by simp⟩)⟩
  · refine ⟨⟨rfl, AHeap.set_same _ _ _, hb⟩, fun b' hb' => hK _ _ (.inr ⟨b', ?_, by simp, ?_⟩)⟩
    · rcases hb' with rfl | hb'
      · exact hb0
      · by_cases e : b' = b
        · subst e; exact hb0
        · rwa [AHeap.set_ne _ _ e] at hb'
    · rw [set_del _ _ _ hb0]
      simp

theorem Grows.sub {H0 H : AHeap} {e : TypeId} {sz : Nat} {l : List AV} {v : AV} (h : Grows H0 e sz l v H) : Sub v (.list sz l) := by
  rcases h with ⟨rfl, rfl, rfl⟩ | ⟨b, hb0, rfl, rfl⟩
  · exact .nils sz
  · exact .own sz l b

theorem Grows.asList {H0 H : AHeap} {e : TypeId} {sz : Nat} {l : List AV} {v : AV} (h : Grows H0 e sz l v H) : ∃ s, v.asList = some (s, l) ∧ (l = [] ∨ s = sz) := by
  rcases h with ⟨rfl, rfl, rfl⟩ | ⟨b, hb0, rfl, rfl⟩
  · exact ⟨0, rfl, .inl rfl⟩
  · exact ⟨sz, rfl, .inr rfl⟩

theorem HLe.set {H : AHeap} {b : Nat} {o : AObj} (h : H b = none) : HLe H (H.set b o) := by
  refine .of_sub fun x o' hx => ?_
  have : x ≠ b := by rintro rfl; rw [h] at hx; cases hx
  rw [AHeap.set_ne _ _ this]; exact hx
end Go.Av
