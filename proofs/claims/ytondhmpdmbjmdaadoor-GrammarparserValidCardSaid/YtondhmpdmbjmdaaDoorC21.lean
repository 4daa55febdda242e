/- Part of the proof: C21. No condition. -/
import Derived.Test.YtondhmpdmbjmdaaDoorPa
import Derived.Test.YtondhmpdmbjmdaaDoorAvF
import Derived.Recover
import Derived.Tactics2
import Derived.KernelRfl
set_option linter.unusedVariables false
set_option linter.unusedSimpArgs false
namespace Go.Av
open Go Go.Proofs

theorem catch_rs {c : Cx} {b2 b3 b4 : Nat} {p2 p3 p4 x : Value} {v : AV} (h2 : RepV c (.ptr b2 0 []) p2) (h3 : RepV c (.ptr b3 0 []) p3) (h4 : RepV c (.ptr b4 0 []) p4) (hx : RepV c v x) :
    RS (c.with ([], [])) 10 [(0, .ptr b2 0 []), (1, .ptr b3 0 []), (2, .ptr b4 0 []), (3, v)]
      { tmps := #[p2, p3, p4] ++ ((Array.replicate 7 undef).setIfInBounds 1 x).setIfInBounds 0 x, defers := [] } := by
  refine ⟨fun i => ?_, by simp, rfl, fun p hp => by cases hp⟩
  match i with
  | 0 => exact h2.with _
  | 1 => exact h3.with _
  | 2 => exact h4.with _
  | 3 => exact hx.with _
  | n + 4 => exact .inl (by simp [Env.get])

theorem catch_idle {c : Cx} (hh : RH c) {b2 b3 b4 : Nat} {p2 p3 p4 : Value} (h2 : RepV c (.ptr b2 0 []) p2) (h3 : RepV c (.ptr b3 0 []) p3) (h4 : RepV c (.ptr b4 0 []) p4) :
    CallsD PP 47 #[p2, p3, p4] .returning c.w fun e u' w' => e = .returned (.tuple #[]) ∧ u' = .returning ∧ ∃ d : Cx, d.w = w' ∧ c.Le d ∧ RH d ∧ d.H = c.H := by
  refine callsD_of_wpS Tryd.func47 rfl fun c₀ cs hu => ?_
  apply wpS_seq
  apply wpS_region
  simp [wpOpsS, go_sem, recoverD, hu, Tryd.ntmps47, Exit.thenS]
  refine wpS_of_wp ?_
  change (codeAt (bodyOf Tryd.f47) [1]).wp PP _ _ (c.with ([], [])).w
  refine aw_sound PP_mix _ _ gP_Parse_1_p0_comp (c.with ([], [])) _ _ (fun e env H' => e = .norm ∧ H' = c.H) _ (by intro t _ p hp; cases hp) (catch_rs h2 h3 h4 (v := .nili) (Rep1.v ⟨.nili, rfl⟩)) (hh.with _) ?_ ?_
  · simp
    rfl
  · rintro e d env' a' hle hrh hrs ⟨rfl, hH⟩
    refine ⟨by rw [hrs.defers, hle.ds]; rfl, .returning, ?_, ?_⟩
    · cases c₀; simp_all
    · exact ⟨.tuple #[], by simp [results, Tryd.results47], rfl, rfl, d.with c.ds, rfl, hle.with, hrh.with _, hH⟩

theorem catch_panicking {c : Cx} (hh : RH c) {b2 b3 b4 : Nat} {p2 p3 p4 : Value} (h2 : RepV c (.ptr b2 0 []) p2) (h3 : RepV c (.ptr b3 0 []) p3) (h4 : RepV c (.ptr b4 0 []) p4) (n23 : b2 ≠ b3) (n24 : b2 ≠ b4) (n34 : b3 ≠ b4)
    {v : AV} {x y : Int} (k2 : c.H b2 = some (.box v)) (hv : v.size = 3) (k3 : c.H b3 = some (.box (i64 x))) (k4 : c.H b4 = some (.box (i64 y))) (k : Nat) (older : List PanicEntry) :
    CallsD PP 47 #[p2, p3, p4] (.panicking ({ v := synErr k, recovered := false } :: older)) c.w fun e u' w' => e = .returned (.tuple #[]) ∧ u' = .panicking ({ v := synErr k, recovered := true } :: older) ∧
      ∃ d : Cx, d.w = w' ∧ c.Le d ∧ RH d ∧ d.H = E3 c.H b2 b3 b4 zGF k 3 := by
  refine callsD_of_wpS Tryd.func47 rfl fun c₀ cs hu => ?_
  apply wpS_seq
  apply wpS_region
  simp [wpOpsS, go_sem, recoverD, hu, Tryd.ntmps47, Exit.thenS]
  refine wpS_of_wp ?_
  change (codeAt (bodyOf Tryd.f47) [1]).wp PP _ _ (c.with ([], [])).w
  refine aw_sound PP_mix _ _ gP_Parse_1_p0_comp (c.with ([], [])) _ _ (fun e env H' => e = .norm ∧ H' = E3 c.H b2 b3 b4 zGF k 3) _ (by intro t _ p hp; cases hp) (catch_rs h2 h3 h4 (v := .iface 80 (i64 k)) (Rep1.v ⟨.iface (u := .int .i64 k) (.int _ _) rfl, rfl⟩)) (hh.with _) ?_ ?_
  · have k3' : ∀ o, (c.H.set b2 o) b3 = some (.box (i64 x)) := fun o => by rw [AHeap.set_ne _ _ (Ne.symm n23)]; exact k3
    have k4' : ∀ o o', ((c.H.set b2 o).set b3 o') b4 = some (.box (i64 y)) := fun o o' => by rw [AHeap.set_ne _ _ (Ne.symm n34), AHeap.set_ne _ _ (Ne.symm n24)]; exact k4
    have hH : (c.with ([], [])).H = c.H := rfl
    rw [hH]
    simp [-gP_Parse_1_c2_eq]
    rw [gP_Parse_1_c2_eq]
    simp
    refine gP_Parse_1_c1_lexF [] ?_
    simp [Agree, k2, k3', k4', hv, E3, zGF]
  · rintro e d env' a' hle hrh hrs ⟨rfl, hH⟩
    refine ⟨by rw [hrs.defers, hle.ds]; rfl, .panicking ({ v := synErr k, recovered := true } :: older), ?_, ?_⟩
    · cases c₀; simp_all
    · exact ⟨.tuple #[], by simp [results, Tryd.results47], rfl, rfl, d.with c.ds, rfl, hle.with, hrh.with _, hH⟩

theorem results_rep {P : Program} {fn : Func} {c : Cx} {n : Nat} {env : Env} {a : Act} (hs : RS c n env a) (hh : RH c) {rs : List ARV} (hr : compRes P fn.results.toList = some rs) {k : List AV → Prop} (h : resK env c.H rs k) :
    ∃ vs v, (results fn a.tmps).run P c.w = .ok v c.w ∧ RepV c (resV vs) v ∧ k vs := by
  obtain ⟨vs, us, hk, e1, e2, e3⟩ := resK_sound (P := P) hs hh _ _ _ hr h
  have e3' : (fn.results.mapM (resSem a.tmps)).run P c.w = .ok us.toArray c.w := by
    rw [show fn.results = fn.results.toList.toArray from by simp]
    simp only [List.mapM_toArray]
    rw [Sem.run_map, e3]
    rfl
  refine ⟨vs, if h : us.toArray.size = 1 then us.toArray[0] else .tuple us.toArray, ?_, resV_rep vs us e1 e2, hk⟩
  rw [results_eq, Sem.run_bind, e3']
  rfl

theorem E3_le {A : AHeap} {b2 b3 b4 : Nat} {v : AV} {x y : Int} (n23 : b2 ≠ b3) (n24 : b2 ≠ b4) (n34 : b3 ≠ b4) (m2 : A b2 = none) (m3 : A b3 = none) (m4 : A b4 = none) : HLe A (E3 A b2 b3 b4 v x y) := by
  refine (HLe.set (o := .box v) m2).trans ((HLe.set (b := b3) (o := .box (i64 x)) ?_).trans (HLe.set (b := b4) (o := .box (i64 y)) ?_))
  · rw [AHeap.set_ne _ _ (Ne.symm n23)]; exact m3
  · rw [AHeap.set_ne _ _ (Ne.symm n34), AHeap.set_ne _ _ (Ne.symm n24)]; exact m4

theorem E3_b2 {A : AHeap} {b2 b3 b4 : Nat} {v : AV} {x y : Int} (n23 : b2 ≠ b3) (n24 : b2 ≠ b4) : E3 A b2 b3 b4 v x y b2 = some (.box v) := by
  unfold E3; rw [AHeap.set_ne _ _ n24, AHeap.set_ne _ _ n23, AHeap.set_same]
theorem E3_b3 {A : AHeap} {b2 b3 b4 : Nat} {v : AV} {x y : Int} (n34 : b3 ≠ b4) : E3 A b2 b3 b4 v x y b3 = some (.box (i64 x)) := by
  unfold E3; rw [AHeap.set_ne _ _ n34, AHeap.set_same]
theorem E3_b4 {A : AHeap} {b2 b3 b4 : Nat} {v : AV} {x y : Int} : E3 A b2 b3 b4 v x y b4 = some (.box (i64 y)) := by
  unfold E3; rw [AHeap.set_same]

theorem zGF_sub : Sub zGF (GF.av ⟨[], [], []⟩) := sub_file (.nils 2) (.nils 2)

/-- Behind the deferred call: the results are read. -/
theorem parse_end {c d : Cx} {a : Act} {b2 b3 b4 : Nat} {f : AV} {x y : Int} (hle : (c.with d.ds).Le d) (hrh : RH d) (hrs : RS d 42 [(2, .ptr b2 0 []), (3, .ptr b3 0 []), (4, .ptr b4 0 [])] a) (n23 : b2 ≠ b3) (n24 : b2 ≠ b4) (n34 : b3 ≠ b4)
    (m2 : c.H b2 = none) (m3 : c.H b3 = none) (m4 : c.H b4 = none) (hH : d.H = E3 c.H b2 b3 b4 f x y) (hf : f.size = 3) (hg : f.isAgg = true) {R : Ending → World → Prop}
    (hR : ∀ v (e : Cx), e.w = d.w → c.Le e → RH e → e.H = c.H → RepV e (.tuple [f, i64 x, i64 y]) v → R (.returned v) d.w) : Leaves PP Tryd.f24 a.tmps R [] .returning d.w := by
  obtain ⟨vs, v, h1, h2, h3⟩ := results_rep (fn := Tryd.f24) (k := fun l => l = [f, i64 x, i64 y]) hrs hrh gP_Parse_rsc (by
    rw [hH]
    simp [gP_Parse_rs, E3_b2 n23 n24, E3_b3 n34, E3_b4, hf, hg])
  subst h3
  have hw := Cx.Le.weaken (c := d) (H' := c.H) (by rw [hH]; exact E3_le n23 n24 n34 m2 m3 m4)
  exact ⟨v, h1, hR v (Cx.with { d with H := c.H } c.ds) rfl (hle.trans hw).with ((hrh.weaken (by rw [hH]; exact E3_le n23 n24 n34 m2 m3 m4)).with _) rfl ((h2.mono hw).with _)⟩

theorem gp_Parse (s : List UInt8) (hs : s.length ≤ 1000000) (H : AHeap) : Pure gP_Parse_id [.str s] H (.tuple [(parseM s).1.av, i64 (parseM s).2.1, i64 (parseM s).2.2]) := by
  refine ⟨by kernel_rfl, fun c us hH hh hl hrep => ?_⟩
  subst hH
  obtain ⟨u, rfl⟩ : ∃ u, us = [u] := by
    match us, hl with
    | [u], _ => exact ⟨u, rfl⟩
  have hu : RepV c (.str s) u := hrep 0 _ _ rfl rfl
  refine calls_of_wp_defers Tryd.func24 rfl ?_
  apply wp_seq
  change (codeAt (bodyOf Tryd.f24) [0]).wp PP _ _ (c.with ([], [])).w
  have hact : ({ tmps := [u].toArray ++ Array.replicate (Tryd.f24.ntmps - [u].toArray.size) undef, defers := [] } : Act) = { tmps := #[u] ++ Array.replicate 41 undef, defers := [] } := by
    simp [Tryd.ntmps24]
  rw [hact]
  have hs0 : RS (c.with ([], [])) 42 [(0, .str s)] { tmps := #[u] ++ Array.replicate 41 undef, defers := [] } := by
    refine ⟨fun i => ?_, by simp, rfl, fun p hp => by cases hp⟩
    match i with
    | 0 =>
      have : (#[u] ++ Array.replicate 41 undef).getD 0 undef = u := by simp [Array.getD_eq_getD_getElem?]
      simp only [this]
      exact hu.with _
    | n + 1 => exact .inl (by simp [Env.get])
  clear hact
  refine aw_sound PP_mix _ _ gP_Parse_p0_comp (c.with ([], [])) _ _ (fun e env H' => e = .norm ∧ ∃ b2 b3 b4, c.H b2 = none ∧ c.H b3 = none ∧ c.H b4 = none ∧ b2 ≠ b3 ∧ b2 ≠ b4 ∧ b3 ≠ b4 ∧
      env = [(0, .str s), (2, .ptr b2 0 []), (3, .ptr b3 0 []), (4, .ptr b4 0 [])] ∧ H' = E3 c.H b2 b3 b4 zGF 0 0) _ (by intro t _ p hp; cases hp) hs0 (hh.with _) ?_ ?_
  · have hH : (c.with ([], [])).H = c.H := rfl
    rw [hH]
    simp [allocQ]
    intro b2 hb2 b3 hb3 b4 hb4
    have n23 : b2 ≠ b3 := by rintro rfl; rw [AHeap.set_same] at hb3; cases hb3
    have n34 : b3 ≠ b4 := by rintro rfl; rw [AHeap.set_same] at hb4; cases hb4
    have n24 : b2 ≠ b4 := by rintro rfl; rw [AHeap.set_ne _ _ n23, AHeap.set_same] at hb4; cases hb4
    rw [AHeap.set_ne _ _ (Ne.symm n23)] at hb3
    rw [AHeap.set_ne _ _ (Ne.symm n34), AHeap.set_ne _ _ (Ne.symm n24)] at hb4
    exact ⟨b2, hb2, b3, hb3, b4, hb4, n23, n24, n34, ⟨rfl, rfl, rfl⟩, rfl⟩
  · rintro e d env' a' hle hrh hrs ⟨rfl, b2, b3, b4, m2, m3, m4, n23, n24, n34, rfl, hH⟩
    have r2 := hrs.rep 2
    have r3 := hrs.rep 3
    have r4 := hrs.rep 4
    simp only [Env.get] at r2 r3 r4
    simp at r2 r3 r4
    have hsz := hrs.size
    have hmf : ∀ (fn : Fn) (first cap : Array Value) (w : World), (Instr.makeFunc fn first cap).run PP w = .ok (.func fn first cap) w := fun _ _ _ _ => rfl
    have hdf : a'.defers = [] := by rw [hrs.defers, hle.ds]; rfl
    show Code.wp PP (.seq (codeAt (bodyOf Tryd.f24) [1, 0]) (codeAt (bodyOf Tryd.f24) [1, 1])) _ _ _
    generalize hrest : codeAt (bodyOf Tryd.f24) [1, 1] = rest
    generalize hQ : bodyPostD PP Tryd.f24 _ = Q
    apply wp_seq
    refine wp_region_list ?_
    simp [wpList, go_sem, hmf, hsz, hdf, Oper.upon, Exit.then]
    refine .inl (.inl ?_)
    rw [← hrest]
    have hp2 : a'.tmps[2] = (a'.tmps[2]?).getD undef := by simp [hsz]
    have hp3 : a'.tmps[3] = (a'.tmps[3]?).getD undef := by simp [hsz]
    have hp4 : a'.tmps[4] = (a'.tmps[4]?).getD undef := by simp [hsz]
    simp only [hp2, hp3, hp4]
    generalize hq2 : (a'.tmps[2]?).getD undef = p2 at *
    generalize hq3 : (a'.tmps[3]?).getD undef = p3 at *
    generalize hq4 : (a'.tmps[4]?).getD undef = p4 at *
    generalize hdd : ({ target := Target.fn (Fn.func 47) #[p2, p3, p4], args := #[] } : Deferred) = dd
    let kp : List Deferred × List (Nat × Value) := ([dd], [(2, p2), (3, p3), (4, p4)])
    have hs1 : RS (d.with kp) 42 [(0, .str s), (2, .ptr b2 0 []), (3, .ptr b3 0 []), (4, .ptr b4 0 [])] { tmps := a'.tmps.setIfInBounds 7 (.func (.func 47) #[] #[p2, p3, p4]), defers := [dd] } := by
      refine ⟨fun i => ?_, by simp [hsz], rfl, fun p hp => ?_⟩
      · by_cases hi : i = 7
        · subst hi
          exact .inl rfl
        · have : (a'.tmps.setIfInBounds 7 (.func (.func 47) #[] #[p2, p3, p4])).getD i undef = a'.tmps.getD i undef := by
            simp [Array.getD_eq_getD_getElem?, Array.getElem?_setIfInBounds_ne (Ne.symm hi)]
          simp only [this]
          exact (hrs.rep i).with _
      · simp only [kp, Cx.with, List.mem_cons, List.not_mem_nil, or_false] at hp
        rcases hp with rfl | rfl | rfl
        · simp [hq2]
        · simp [hq3]
        · simp [hq4]
    have hdst : ((dsts (codeAt (bodyOf Tryd.f24) [1, 1])).all fun t => t != 2 && t != 3 && t != 4) = true := by kernel_rfl
    have hkp : ∀ t ∈ dsts (codeAt (bodyOf Tryd.f24) [1, 1]), ∀ p ∈ (d.with kp).ds.2, p.1 ≠ t := by
      intro t ht p hp
      have := List.all_eq_true.1 hdst t ht
      simp only [kp, Cx.with, List.mem_cons, List.not_mem_nil, or_false] at hp
      simp at this
      rcases hp with rfl | rfl | rfl <;> simp only <;> omega
    have hcd : c.Le (d.with c.ds) := hle.with
    have z2 : E3 c.H b2 b3 b4 zGF 0 0 b2 = some (.box zGF) := E3_b2 n23 n24
    have z3 : E3 c.H b2 b3 b4 zGF 0 0 b3 = some (.box (i64 0)) := E3_b3 n34
    have z4 : E3 c.H b2 b3 b4 zGF 0 0 b4 = some (.box (i64 0)) := E3_b4
    refine aw_sound PP_mix _ _ gP_Parse_p1_comp (d.with kp) _ _ (fun e env H' => (e = .ret ∧ HLe (E3 c.H b2 b3 b4 (parseM s).1.av (parseM s).2.1 (parseM s).2.2) H') ∨
      (∃ (k : Nat) (v : AV), e = .pan (synErr k) ∧ parseM s = (⟨[], [], []⟩, (k : Int), 3) ∧ v.size = 3 ∧ v.sto = true ∧ HLe (E3 c.H b2 b3 b4 v 0 0) H')) _ hkp hs1 (hrh.with _) ?_ ?_
    · have hH1 : (d.with kp).H = E3 c.H b2 b3 b4 zGF 0 0 := hH
      rw [hH1]
      refine gp_Parse_body s hs n23 n24 n34 z2 z3 z4 3000003 (by omega) _ (fun f H' hp hv hl => .inl ⟨rfl, ?_⟩) (fun f H' hp hv hl => .inl ⟨rfl, ?_⟩) fun k v H' hp h1 h2 hl => .inr ⟨k, v, rfl, ?_, h1, h2, ?_⟩
      · rw [E3_E3] at hl
        simpa [parseM, hp, hv] using hl
      · rw [E3_E3] at hl
        simp only [parseM, hp, hv, Bool.false_eq_true, if_false]
        exact (E3_sub zGF_sub (by simp [GF.av])).trans hl
      · simp [parseM, hp]
      · rwa [E3_E3] at hl
    · intro e d2 env2 a2 hle2 hrh2 hrs2 hk
      have hds2 : d2.ds = kp := hle2.ds
      have hdef2 : a2.defers = [dd] := by rw [hrs2.defers, hds2]
      have keep2 : a2.tmps.getD 2 undef = p2 := hrs2.keep (2, p2) (by rw [hds2]; simp [kp])
      have keep3 : a2.tmps.getD 3 undef = p3 := hrs2.keep (3, p3) (by rw [hds2]; simp [kp])
      have keep4 : a2.tmps.getD 4 undef = p4 := hrs2.keep (4, p4) (by rw [hds2]; simp [kp])
      have g2 : ∀ e : Cx, d2.Le e → RepV e (.ptr b2 0 []) p2 := fun e he => ((r2.with kp).mono hle2).mono he
      have g3 : ∀ e : Cx, d2.Le e → RepV e (.ptr b3 0 []) p3 := fun e he => ((r3.with kp).mono hle2).mono he
      have g4 : ∀ e : Cx, d2.Le e → RepV e (.ptr b4 0 []) p4 := fun e he => ((r4.with kp).mono hle2).mono he
      have rs2 : ∀ e : Cx, d2.Le e → RS e 42 [(2, .ptr b2 0 []), (3, .ptr b3 0 []), (4, .ptr b4 0 [])] a2 := fun e he => by
        have h0 := hrs2.mono he
        refine ⟨fun i => ?_, h0.size, h0.defers, h0.keep⟩
        by_cases h2 : i = 2
        · subst h2; rw [keep2]; exact g2 e he
        · by_cases h3 : i = 3
          · subst h3; rw [keep3]; exact g3 e he
          · by_cases h4 : i = 4
            · subst h4; rw [keep4]; exact g4 e he
            · exact .inl (by simp [Env.get, Ne.symm h2, Ne.symm h3, Ne.symm h4])
      have cle : ∀ e : Cx, d2.Le e → (c.with e.ds).Le e := fun e he => by
        have h1 : (d.with e.ds).Le e := by
          have : e.ds = kp := he.ds.trans hds2
          rw [this]; exact hle2.trans he
        have h2 : (c.with e.ds).Le (d.with e.ds) := by
          have := (c.with e.ds)
          exact ⟨hle.base, hle.size, hle.rd, hle.old, hle.os, hle.tape, hle.output, rfl, hle.row⟩
        exact h2.trans h1
      subst hQ
      rcases hk with ⟨rfl, hl⟩ | ⟨k, v, rfl, hpm, hv3, hvs, hl⟩
      · show Leaves PP Tryd.f24 a2.tmps _ a2.defers .returning d2.w
        rw [hdef2, ← hdd]
        refine leaves_cons (f := 47) (args := #[p2, p3, p4]) (by simp) (by simp [go_sem]) ?_
        have hw := Cx.Le.weaken (c := d2) hl
        refine (catch_idle (hrh2.weaken hl) (g2 _ hw) (g3 _ hw) (g4 _ hw)).mono ?_
        rintro e u' w' ⟨rfl, rfl, d3, rfl, h1, h2, h3⟩
        refine parse_end (c := c) (d := d3) (cle _ (hw.trans h1)) h2 (rs2 _ (hw.trans h1)) n23 n24 n34 m2 m3 m4 h3 rfl rfl fun v e k1 k2 k3 k4 k5 => ?_
        exact ⟨e, k1, k2, k3, _, ⟨rfl, k4⟩, k5⟩
      · show Leaves PP Tryd.f24 a2.tmps _ a2.defers (.panicking [{ v := synErr k, recovered := false }]) d2.w
        rw [hdef2, ← hdd]
        refine leaves_cons (f := 47) (args := #[p2, p3, p4]) (by simp) (by simp [go_sem]) ?_
        have hw := Cx.Le.weaken (c := d2) hl
        refine (catch_panicking (hrh2.weaken hl) (g2 _ hw) (g3 _ hw) (g4 _ hw) n23 n24 n34 (E3_b2 n23 n24) hv3 (E3_b3 n34) E3_b4 k []).mono ?_
        rintro e u' w' ⟨rfl, rfl, d3, rfl, h1, h2, h3⟩
        have h3' : d3.H = E3 c.H b2 b3 b4 zGF k 3 := by rw [h3]; exact E3_E3
        have hwe : HLe (E3 c.H b2 b3 b4 (GF.av ⟨[], [], []⟩) k 3) d3.H := by rw [h3']; exact E3_sub zGF_sub (by simp [GF.av])
        have hw2 := Cx.Le.weaken (c := d3) hwe
        show Leaves PP Tryd.f24 a2.tmps _ [] .returning d3.w
        have hfin := (hw.trans h1).trans hw2
        refine parse_end (c := c) (d := { d3 with H := E3 c.H b2 b3 b4 (GF.av ⟨[], [], []⟩) k 3 }) (cle _ hfin) (h2.weaken hwe) (rs2 _ hfin) n23 n24 n34 m2 m3 m4 rfl rfl rfl fun v e k1 k2 k3 k4 k5 => ?_
        refine ⟨e, k1, k2, k3, _, ⟨?_, k4⟩, k5⟩
        rw [hpm]
end Go.Av
