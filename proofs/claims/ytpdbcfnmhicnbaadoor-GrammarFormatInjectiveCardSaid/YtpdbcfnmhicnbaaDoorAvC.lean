/- Every operation is sound: what the abstract one asks, the loaded one does, in memory. -/
import Derived.Test.YtpdbcfnmhicnbaaDoorAvB
import Derived.WideMake
import Derived.MapKept
set_option linter.unusedVariables false
set_option linter.unusedSimpArgs false
namespace Go.Av

theorem RepC.append {c : Cx} : ∀ {l1 : List AV} {c1 : List Value}, RepC c (.struct l1) c1 → ∀ {l2 : List AV} {c2 : List Value}, RepC c (.struct l2) c2 → RepC c (.struct (l1 ++ l2)) (c1 ++ c2)
  | [], c1, h1, l2, c2, h2 => by cases h1; exact h2
  | v :: l1, c1, h1, l2, c2, h2 => by
    cases h1 with
    | scons a b =>
      rw [List.append_assoc]
      exact .scons a (RepC.append b h2)

theorem sizes_all {s : Nat} : ∀ {l : List AV}, (∀ v ∈ l, v.size = s) → AV.sizes l = l.length * s
  | [], _ => by simp [AV.sizes]
  | v :: l, h => by
    simp only [AV.sizes, h v (by simp), sizes_all (fun x hx => h x (List.mem_cons_of_mem _ hx)), List.length_cons, Nat.add_mul]
    omega

/-- The elements of a row, out of the row's cells. -/
theorem struct_elems {c : Cx} {s : Nat} : ∀ {l : List AV} {cs : List Value}, RepC c (.struct l) cs → (∀ v ∈ l, v.size = s) →
    ∃ css : Nat → List Value, (∀ j v, l[j]? = some v → RepC c v (css j)) ∧ (∀ j, j < l.length → (css j).length = s) ∧ ∀ j i u, j < l.length → (css j)[i]? = some u → cs[j * s + i]? = some u
  | [], cs, h, hs => ⟨fun _ => [], fun j v hv => by simp at hv, fun j hj => by simp at hj, fun j i u hj => by simp at hj⟩
  | v :: l, cs, h, hs => by
    cases h with
    | scons h1 h2 =>
      rename_i c1 c2
      obtain ⟨css, g1, g2, g3⟩ := struct_elems h2 (fun x hx => hs x (List.mem_cons_of_mem _ hx))
      have hl1 : c1.length = s := by rw [h1.length]; exact hs v (by simp)
      refine ⟨fun j => match j with | 0 => c1 | j + 1 => css j, fun j x hx => ?_, fun j hj => ?_, fun j i u hj hu => ?_⟩
      · cases j with
        | zero => simp only [List.getElem?_cons_zero, Option.some.injEq] at hx; subst hx; exact h1
        | succ j => exact g1 j x (by simpa using hx)
      · cases j with
        | zero => exact hl1
        | succ j => exact g2 j (by simpa using hj)
      · cases j with
        | zero =>
          have hi : i < c1.length := (List.getElem?_eq_some_iff.1 hu).1
          rw [Nat.zero_mul, Nat.zero_add, List.getElem?_append_left hi]
          exact hu
        | succ j =>
          have := g3 j i u (by simpa using hj) hu
          rw [List.getElem?_append_right (by rw [hl1, Nat.add_mul]; omega), hl1, show (j + 1) * s + i - s = j * s + i from by rw [Nat.add_mul]; omega]
          exact this

/-- A list's cells, one behind the other. -/
theorem list_cells {c : Cx} {s : Nat} {A : Option Addr} : ∀ (l : List AV) (k : Nat) (css : Nat → List Value), (∀ j v, l[j]? = some v → RepC c v (css (k + j))) → (∀ j, j < l.length → (css (k + j)).length = s) →
    (∀ j i u, j < l.length → (css (k + j))[i]? = some u → ∃ ad, A = some ad ∧ c.rd (ad.add ((k + j) * s + i)) u) →
    ∃ cs, RepC c (.struct l) cs ∧ cs.length = l.length * s ∧ ∀ (i : Nat) (u : Value), cs[i]? = some u → ∃ ad, A = some ad ∧ c.rd (ad.add (k * s + i)) u
  | [], k, css, _, _, _ => ⟨[], .snil, by simp, fun i u hu => by simp at hu⟩
  | v :: l, k, css, h1, h2, h3 => by
    obtain ⟨cs, g1, g2, g3⟩ := list_cells l (k + 1) css (fun j x hx => by have := h1 (j + 1) x (by simpa using hx); rwa [show k + (j + 1) = k + 1 + j from by omega] at this)
      (fun j hj => by have := h2 (j + 1) (by simpa using hj); rwa [show k + (j + 1) = k + 1 + j from by omega] at this)
      (fun j i u hj hu => by have := h3 (j + 1) i u (by simpa using hj) (by rwa [show k + (j + 1) = k + 1 + j from by omega]); rwa [show k + (j + 1) = k + 1 + j from by omega] at this)
    have l0 : (css k).length = s := h2 0 (by simp)
    refine ⟨css k ++ cs, .scons (h1 0 v rfl) g1, by simp [l0, g2, Nat.add_mul]; omega, fun i u hu => ?_⟩
    rcases Nat.lt_or_ge i s with hi | hi
    · rw [List.getElem?_append_left (by omega)] at hu
      exact h3 0 i u (by simp) hu
    · rw [List.getElem?_append_right (by omega), l0] at hu
      obtain ⟨ad, e, hr⟩ := g3 _ u hu
      refine ⟨ad, e, ?_⟩
      rwa [show (k + 1) * s + (i - s) = k * s + i from by rw [Nat.add_mul]; omega] at hr

theorem ListAt.cells {c : Cx} {s : Nat} {l : List AV} {A : Option Addr} {cap : Nat} (h : ListAt c s l A cap) :
    ∃ cs, RepC c (.struct l) cs ∧ cs.length = l.length * s ∧ ∀ (i : Nat) (u : Value), cs[i]? = some u → ∃ ad, A = some ad ∧ c.rd (ad.add i) u := by
  obtain ⟨_, _, css, h1, h2, h3⟩ := h
  obtain ⟨cs, g1, g2, g3⟩ := list_cells l 0 css (by simpa using h1) (by simpa using h2) (by simpa using h3)
  exact ⟨cs, g1, g2, by simpa using g3⟩

theorem ListAt.sizes {c : Cx} {s : Nat} {l : List AV} {A : Option Addr} {cap : Nat} (h : ListAt c s l A cap) : ∀ v ∈ l, v.size = s := by
  intro v hv
  obtain ⟨j, hj⟩ := List.getElem?_of_mem hv
  obtain ⟨cs, hr, hl, _⟩ := h.elem hj
  rw [← hr.length, hl]

/-- A list that lies at the head of a block. -/
theorem listAt_block {d : Cx} {b s cap : Nat} {l : List AV} {cs : Array Value} {e : TypeId} {fr : Nat × Nat} {pre : List Value} (hw : d.w.heap[b]? = some (.cells cs e fr)) (hr : RepC d (.struct l) pre) (hs : ∀ v ∈ l, v.size = s)
    (hp : ∀ (i : Nat) (u : Value), pre[i]? = some u → cs[i]? = some u) (hl : l.length * s ≤ d.lim b) (hc : l.length ≤ cap) (hm : cap ≤ maxLen) : ListAt d s l (some ⟨b, 0, none⟩) cap := by
  obtain ⟨css, g1, g2, g3⟩ := struct_elems hr hs
  refine ⟨hc, hm, css, g1, g2, fun j i u hj hu => ⟨_, rfl, ?_, ?_⟩⟩
  · have hi : i < (css j).length := (List.getElem?_eq_some_iff.1 hu).1
    rw [g2 j hj] at hi
    refine .inr ?_
    rw [Addr.add_mid]
    simp only [Nat.zero_add]
    have : (j + 1) * s ≤ l.length * s := Nat.mul_le_mul_right _ (by omega)
    rw [Nat.add_mul] at this
    omega
  · rw [Addr.add_mid]
    simp only [World.cell?, hw, Nat.zero_add, Option.isSome_none, Bool.false_eq_true, if_false]
    exact hp _ u (g3 j i u hj hu)

theorem own_block {d : Cx} {b s cap : Nat} {l : List AV} {cs : Array Value} {e : TypeId} {pre : List Value} (hw : d.w.heap[b]? = some (.cells cs e (0, 0))) (hr : RepC d (.struct l) pre) (hs : ∀ v ∈ l, v.size = s)
    (hp : ∀ (i : Nat) (u : Value), pre[i]? = some u → cs[i]? = some u) (hl : l.length * s ≤ d.lim b) (hc : l.length ≤ cap) (hm : cap ≤ maxLen) (hH : d.H b = some (.row l.length s e)) (hcs : cs.size = cap * s) :
    RepC d (.own s l b) [.slice (some ⟨b, 0, none⟩) l.length cap] := by
  obtain ⟨_, _, css, g1, g2, g3⟩ := listAt_block hw hr hs hp hl hc hm
  refine .own css hc hm g1 g2 g3 (Array.getElem?_eq_some_iff.1 hw).1 fun n s' e' hn => ?_
  rw [hH] at hn
  injection hn with hn
  injection hn with h1 h2 h3
  subst h1 h2 h3
  exact ⟨rfl, Nat.le_refl _, fun _ => ⟨rfl, cs, hw, hcs⟩⟩

theorem setAll_sizes : ∀ (ps : List (Nat × AV)) (l : List AV), partsOk (l.map AV.size) ps → (setAll l ps).map AV.size = l.map AV.size
  | [], l, _ => rfl
  | (i, v) :: ps, l, h => by
    obtain ⟨⟨h1, _⟩, h2⟩ := h
    have e : (l.set i v).map AV.size = l.map AV.size := by
      apply List.ext_getElem?
      intro j
      simp only [List.getElem?_map, List.getElem?_set]
      by_cases hij : i = j
      · subst hij
        simp only [List.getElem?_map, Option.map_eq_some_iff] at h1
        obtain ⟨x, hx, hxs⟩ := h1
        have hi := (List.getElem?_eq_some_iff.1 hx).1
        have hx2 : l[i] = x := by have := List.getElem?_eq_getElem hi; rw [hx] at this; exact (Option.some.inj this).symm
        simp [hi, hx2, hxs]
      · simp [hij]
    simp only [setAll]
    rw [setAll_sizes ps _ (by rw [e]; exact h2), e]

theorem zeros_rep {c : Cx} {z : AV} {s : Nat} {zc : List Value} (hz : RepC c z zc) (hs : zc.length = s) : ∀ (n : Nat) (cs : List Value), cs.length = n * s → (∀ k, k < n * s → cs[k]? = zc[k % s]?) → RepC c (.struct (List.replicate n z)) cs
  | 0, cs, hl, _ => by
    have : cs = [] := List.eq_nil_of_length_eq_zero (by simpa using hl)
    subst this
    exact .snil
  | n + 1, cs, hl, h => by
    have e : cs = cs.take s ++ cs.drop s := (List.take_append_drop s cs).symm
    rw [Nat.add_mul] at hl h
    have e1 : cs.take s = zc := by
      apply List.ext_getElem?
      intro k
      rw [List.getElem?_take]
      split
      · rename_i hk
        rw [h k (by omega), Nat.mod_eq_of_lt hk]
      · rename_i hk
        rw [List.getElem?_eq_none (by omega)]
    rw [e, List.replicate_succ, e1]
    refine .scons hz (zeros_rep hz hs n _ (by simp; omega) fun k hk => ?_)
    rw [List.getElem?_drop, h (s + k) (by omega), Nat.add_mod_left]

theorem aop_call_run {P : Program} {a : Act} {w : World} {dst : Option Tmp} {type : TypeId} {pos : String} {after : Array Edge} {guard : Option (Nat × Bool)} {f : Operand} {args : Array Operand} {tys : Array TypeId} {F : FuncId} {u1 u2 : Array Value}
    (hf : a.eval f = .func (.func F) u1 u2) (hb : hasBody P F = true) :
    (execOp a.eval ⟨dst, .call ⟨.value f, args, tys⟩, type, pos, after, guard⟩).run P w = .ok (.enter F (u1 ++ args.map a.eval ++ u2)) w := by
  unfold hasBody at hb
  split at hb
  · rename_i fn hfn
    simp only [Bool.and_eq_true, bne_iff_ne, ne_eq] at hb
    obtain ⟨h1, h2⟩ := hb
    have h3 : ¬ fn.body = none := by intro e; rw [e] at h1; cases h1
    simp [execOp, resolve, hf, Deferred.ofValue, invoke, callFunc, hfn, h2, h3]
  · cases hb

theorem aop_pure {P : Program} {env : Env} {op : AOp} {K : AV → AHeap → Prop} {c : Cx} {own : Bool} {o : Oper} {n : Nat} {a : Act} {next : Act → World → Prop} {Q : Exit → Act → World → Prop}
    (hc : compOp P own o = some op) (hs : RS c n env a) (hh : RH c) (h : aval c.H env op fun v => K v c.H)
    (hK : ∀ (d : Cx) (v : AV) (u : Value), c.Le d → RH d → RepV d v u → K v d.H → next (a.put o.dst u) d.w) : o.wp P a c.w next Q := by
  obtain ⟨v, u, hrun, hrep, hk⟩ := aval_sound hc hs hh h
  unfold Oper.wp
  rw [hrun]
  exact hK c v u (Cx.Le.refl c) hh hrep hk

theorem del_set_self {H : AHeap} {b : Nat} {o : AObj} (h : H b = some o) : (H.del b).set b o = H := by
  funext x
  simp only [AHeap.set, AHeap.del]
  split
  · rename_i e; rw [e, h]
  · rfl

theorem append_sound {P : Program} {c : Cx} {n : Nat} {env : Env} {a : Act} (hs : RS c n env a) (hh : RH c) {t e : TypeId} {inf : TypeInfo} {sz : Nat} {z : AV} {dst : Option Tmp} {type : TypeId} {pos : String} {after : Array Edge} {guard : Option (Nat × Bool)}
    {s x : Operand} {s' x' : Opd} (ht : P.underlying t = some (.slice e)) (hinf : P.info? e = some inf) (hsz : inf.size = sz + 1) (hz : zeroAV P e = some z) (hzs : z.size = sz + 1) (hby : 0 < inf.bytes)
    (rs : RepV c (s'.ev env) (a.eval s)) (rx : RepV c (x'.ev env) (a.eval x)) {K : AV → AHeap → Prop} {Kp : Value → AHeap → Prop} (h : aop P c.H env (.app e (sz + 1) inf.bytes s' x') K Kp)
    {next : Act → World → Prop} {Q : Exit → Act → World → Prop}
    (hK : ∀ (d : Cx) (v : AV) (u : Value), c.Le d → RH d → RepV d v u → K v d.H → next (a.put dst u) d.w) :
    Oper.wp P ⟨dst, .call ⟨.builtin .append, #[s, x], #[t, t]⟩, type, pos, after, guard⟩ a c.w next Q := by
  obtain ⟨_, inf', zv, hi1, hi2, hrz⟩ := zeroAV_rep hz
  rw [hinf] at hi1
  injection hi1 with hi1
  subst hi1
  have hzl : zv.cells.size = sz + 1 := by have := (hrz c).1.length; rw [hzs] at this; simpa using this
  have hfresh : c.H c.w.heap.size = none := by
    cases hq : c.H c.w.heap.size with
    | none => rfl
    | some o => have := hh.lt _ o hq; omega
  have hexec : ∀ v u, a.eval s = v → a.eval x = u → execOp a.eval ⟨dst, .call ⟨.builtin .append, #[s, x], #[t, t]⟩, type, pos, after, guard⟩ = (do pure (Next.value (← Builtin.append_ #[t, t] type #[v, u]))) := by
    rintro v u rfl rfl
    simp [execOp, resolve, invoke, builtin]
  simp only [aop] at h
  split at h
  · rename_i s2 xs ex
    obtain ⟨hs2, h⟩ := h
    obtain ⟨A, capx, eu, hla⟩ := rx.asList ex
    have hla : ListAt c (sz + 1) xs A capx := by
      rcases hs2 with rfl | rfl
      · exact ListAt.nil c _ A capx hla.2.1
      · exact hla
    obtain ⟨news, hrn, hln, hcn⟩ := hla.cells
    have hszn := hla.sizes
    have hnone : ∀ u ∈ news, u.oneCell' = true := hrn.oneCell
    -- nothing is appended
    have hzero : ∀ (v0 : AV) (B : Option Addr) (m cap : Nat), xs = [] → a.eval s = .slice B m cap → m ≤ cap → RepV c v0 (.slice B m cap) → K v0 c.H → Oper.wp P ⟨dst, .call ⟨.builtin .append, #[s, x], #[t, t]⟩, type, pos, after, guard⟩ a c.w next Q := by
      intro v0 B m cap hxs hes hmc hrep hk
      subst hxs
      have hrun : (Builtin.append_ #[t, t] type #[.slice B m cap, .slice A 0 capx]).run P c.w = .ok (.slice B m cap) c.w := by
        have hfc : (Builtin.firstCells (sz + 1) 0 (.slice A 0 capx)).run P c.w = .ok #[] c.w := by
          cases A <;> simp [Builtin.firstCells, loadCells, loadCellsFrom]
        cases B <;> simp [Builtin.append_, run_underlying ht, sizeOf, typeInfo, hinf, hsz, Builtin.lenOf, hmc, hfc, storeCells]
      unfold Oper.wp
      rw [hexec _ _ hes eu]
      simp only [Sem.run_bind, List.length_nil, hrun, Result.andThen_ok, Sem.run_pure]
      exact hK c v0 _ (Cx.Le.refl c) hh hrep hk
    -- a new row
    have hnew : ∀ (l : List AV) (olds : List Value) (H0 : AHeap) (B : Option Addr) (cap : Nat), RepC c (.struct l) olds → (∀ v ∈ l, v.size = sz + 1) → a.eval s = .slice B l.length cap → (l.length + xs.length) * inf.bytes ≤ 140737488355328 → (∀ b o, H0 b = some o → c.H b = some o) →
        (Builtin.append_ #[t, t] type #[.slice B l.length cap, .slice A xs.length capx]).run P c.w =
          .ok (.slice (some ⟨c.w.heap.size, 0, none⟩) (l.length + xs.length) (grownCap c.w (l.length + xs.length) cap e))
            (c.w.drew.alloc (.cells (olds.toArray ++ news.toArray ++ Builtin.zeroCells zv.cells (grownCap c.w (l.length + xs.length) cap e - (l.length + xs.length))) e)) →
        K (.own (sz + 1) (l ++ xs) c.w.heap.size) (H0.set c.w.heap.size (.row (l.length + xs.length) (sz + 1) e)) → Oper.wp P ⟨dst, .call ⟨.builtin .append, #[s, x], #[t, t]⟩, type, pos, after, guard⟩ a c.w next Q := by
      intro l olds H0 B cap hro hszo hes hbytes hH0 hrun hk
      let need := l.length + xs.length
      let cells : Array Value := olds.toArray ++ news.toArray ++ Builtin.zeroCells zv.cells (grownCap c.w need cap e - need)
      let d : Cx := { c with w := c.w.drew.alloc (.cells cells e), lim := fun b => if b = c.w.heap.size then need * (sz + 1) else c.lim b, H := H0.set c.w.heap.size (.row need (sz + 1) e) }
      have hw : d.w.heap = c.w.heap.push (.cells cells e (0, 0)) := rfl
      have hle : c.Le d := Cx.Le.push hh rfl hw rfl rfl rfl (fun b hb => by simp only [d]; rw [if_neg (by omega)]; exact Nat.le_refl _) fun b n s t hlt hr => by
        have : d.H b = H0 b := AHeap.set_ne _ _ (by omega)
        rw [this] at hr
        exact hH0 b _ hr
      have holen : olds.length = l.length * (sz + 1) := by have := hro.length; simp only [AV.size] at this; rw [this, sizes_all hszo]
      have hge := grownCap_ge c.w need cap e
      have hneed : need ≤ maxLen := by
        have : need * 1 ≤ need * inf.bytes := Nat.mul_le_mul_left _ hby
        have hbb : need * inf.bytes ≤ 140737488355328 := hbytes
        simp only [maxLen]; omega
      have hcm := grownCap_le_maxLen c.w need cap e hneed
      have hcsz : cells.size = grownCap c.w need cap e * (sz + 1) := by
        simp only [cells, Array.size_append, List.size_toArray, size_zeroCells, hzl, holen, hln, ← Nat.add_mul]
        congr 1
        omega
      have hmul : need * (sz + 1) ≤ cells.size := by rw [hcsz]; exact Nat.mul_le_mul_right _ hge
      have hrh : RH d := RH.push_row (H0 := H0) hh hle rfl hw (fun b hb => by simp only [d]; rw [if_neg hb]) (by simp [d]) hH0 rfl hmul
      have hrep := (hro.append hrn).mono hle
      have hlen : (l ++ xs).length = need := by simp [need]
      have hown : RepC d (.own (sz + 1) (l ++ xs) c.w.heap.size) [.slice (some ⟨c.w.heap.size, 0, none⟩) (l ++ xs).length (grownCap c.w need cap e)] :=
        own_block (heap_push_new hw) hrep (fun v hv => by rcases List.mem_append.1 hv with h | h; exact hszo v h; exact hszn v h) (fun i u hu => by
          simp only [cells]
          rw [Array.getElem?_append_left (by have := (List.getElem?_eq_some_iff.1 hu).1; simpa using this)]
          simpa using hu) (by simp [d, hlen, need]) (by omega) hcm (by rw [hlen]; exact AHeap.set_same _ _ _) hcsz
      unfold Oper.wp
      rw [hexec _ _ hes eu]
      simp only [Sem.run_bind, hrun, Result.andThen_ok, Sem.run_pure]
      rw [hlen] at hown
      exact hK d _ _ hle hrh (Rep1.of_scalar hown rfl rfl).v hk
    have hnews : xs ≠ [] → ∃ ad, A = some ad ∧ ∀ (j : Nat) (u : Value), news[j]? = some u → c.w.cell? (ad.add j) = some u := by
      intro hne
      have hpos : 0 < news.length := by rw [hln]; exact Nat.mul_pos ((List.length_pos_iff.2 hne)) (by omega)
      obtain ⟨ad, e1, _⟩ := hcn 0 _ (List.getElem?_eq_getElem hpos)
      refine ⟨ad, e1, fun j u hu => ?_⟩
      obtain ⟨ad', e2, hr⟩ := hcn j u hu
      rw [e1] at e2
      injection e2 with e2
      subst e2
      exact hr.2
    split at h
    · -- a row of one's own
      rename_i s1 l b es
      obtain ⟨⟨rfl, hb, hbytes⟩, hk⟩ := h
      rw [es] at rs
      have rs1 := (rs.one rfl).scalar rfl
      generalize hes : a.eval s = sv at rs1
      cases rs1 with
      | own css hc1 hm1 hr1 hs1 ha1 hb1 ho1 =>
        rename_i A' cap
        obtain ⟨_, _, hform⟩ := ho1 _ _ _ hb
        obtain ⟨rfl, cs, hheap, hcs⟩ := hform rfl
        have hlaO : ListAt c (sz + 1) l (some ⟨b, 0, none⟩) cap := ⟨hc1, hm1, css, hr1, hs1, ha1⟩
        by_cases hx0 : xs = []
        · have := hk b (.inl rfl)
          rw [hx0] at this
          simp only [List.append_nil, List.length_nil, Nat.add_zero] at this
          rw [del_set_self hb] at this
          refine hzero _ _ _ _ hx0 hes hc1 ?_ this
          rw [hes] at rs
          exact rs
        · obtain ⟨ad, rfl, hnw⟩ := hnews hx0
          have hxpos : 0 < xs.length := List.length_pos_iff.2 hx0
          obtain ⟨olds, hro, hlo, hco⟩ := hlaO.cells
          have holds : ∀ (j : Nat) (u : Value), olds[j]? = some u → cs[j]? = some u := by
            intro j u hu
            obtain ⟨ad', e2, hr⟩ := hco j u hu
            injection e2 with e2
            subst e2
            have := hr.2
            rw [Addr.add_mid] at this
            simpa [World.cell?, hheap] using this
          by_cases hroom : l.length + xs.length ≤ cap
          · -- in place
            have hfit : l.length * inf.size + news.length ≤ cs.size := by
              rw [hsz, hln, hcs, ← Nat.add_mul]
              exact Nat.mul_le_mul_right _ hroom
            have hrun := run_append_room (P := P) c.w t type e inf ht hinf b l.length cap cs hheap ad xs.length capx news (by rw [hsz]; exact hln) hnw hnone hroom hfit
            let cs' : Array Value := (cs.toList.take (l.length * inf.size) ++ news ++ cs.toList.drop (l.length * inf.size + news.length)).toArray
            have hcsl : cs'.toList = cs.toList.take (l.length * inf.size) ++ news ++ cs.toList.drop (l.length * inf.size + news.length) := rfl
            have htake : cs.toList.take (l.length * inf.size) = olds := by
              apply List.ext_getElem?
              intro j
              rw [List.getElem?_take, hsz]
              split
              · rename_i hj
                have hjo : j < olds.length := by rw [hlo]; exact hj
                rw [List.getElem?_eq_getElem hjo, Array.getElem?_toList]
                exact holds j _ (List.getElem?_eq_getElem hjo)
              · rename_i hj
                rw [List.getElem?_eq_none (by rw [hlo]; omega)]
            let d : Cx := { c with w := c.w.setRow b cs', lim := fun y => if y = b then (l.length + xs.length) * (sz + 1) else c.lim y, H := (c.H.del b).set b (.row (l.length + xs.length) (sz + 1) e) }
            have hw : d.w.heap[b]? = some (.cells cs' e (0, 0)) := setRow_heap c.w b cs cs' e (0, 0) hheap
            have hother : ∀ y, y ≠ b → d.w.heap[y]? = c.w.heap[y]? := fun y hy => setRow_other c.w b y cs' hy
            have hsize : d.w.heap.size = c.w.heap.size := size_setRow c.w b cs'
            have hcs's : cs'.size = cs.size := by
              have : cs'.toList.length = cs.size := by rw [hcsl]; simp; omega
              simpa using this
            have hle : c.Le d := Cx.Le.grow hh hb hxpos rfl hsize hother rfl rfl rfl (fun y hy => by simp only [d]; rw [if_neg hy]) (by simp [d]) rfl hheap hw (fun i hi => by
              rw [← Array.getElem?_toList, hcsl, htake, List.append_assoc, List.getElem?_append_left (by rw [hlo]; exact hi)]
              have hio : i < olds.length := by rw [hlo]; exact hi
              rw [List.getElem?_eq_getElem hio]
              exact (holds i _ (List.getElem?_eq_getElem hio)).symm)
            have hszl : (l.length + xs.length) * (sz + 1) ≤ cs'.size := by rw [hcs's, hcs]; exact Nat.mul_le_mul_right _ hroom
            have hrh : RH d := RH.grow hh hle hb rfl hsize hother (fun y hy => by simp only [d]; rw [if_neg hy]) (by simp [d]) rfl hw hszl
            have hrep := (hro.append hrn).mono hle
            have hlen : (l ++ xs).length = l.length + xs.length := by simp
            have hown : RepC d (.own (sz + 1) (l ++ xs) b) [.slice (some ⟨b, 0, none⟩) (l ++ xs).length cap] :=
              own_block hw hrep (fun v hv => by rcases List.mem_append.1 hv with h | h; exact hlaO.sizes v h; exact hszn v h) (fun i u hu => by
                rw [← Array.getElem?_toList, hcsl, htake]
                rw [List.getElem?_append_left (by have := (List.getElem?_eq_some_iff.1 hu).1; exact this)]
                exact hu) (by simp [d]) (by omega) hm1 (by rw [hlen]; exact AHeap.set_same _ _ _) (by rw [hcs's, hcs])
            unfold Oper.wp
            rw [hexec _ _ hes eu]
            simp only [Sem.run_bind, hrun, Result.andThen_ok, Sem.run_pure]
            rw [hlen] at hown
            exact hK d _ _ hle hrh (Rep1.of_scalar hown rfl rfl).v (hk b (.inl rfl))
          · -- a new row
            have hneed : (l.length + xs.length) * 1 ≤ (l.length + xs.length) * inf.bytes := Nat.mul_le_mul_left _ hby
            have hrun := run_append_grow (P := P) c.w t type e inf zv ht hinf hi2 ⟨b, 0, none⟩ l.length cap olds (by rw [hsz]; exact hlo) (fun j u hu => by rw [Addr.add_mid]; simpa [World.cell?, hheap] using holds j u hu)
              ad xs.length capx news (by rw [hsz]; exact hln) hnw (by omega) (by omega) (growslice_fits (by omega) hbytes)
            exact hnew l olds (c.H.del b) _ cap hro hlaO.sizes hes hbytes (fun y o hy => by simp only [AHeap.del] at hy; split at hy; cases hy; exact hy) hrun (hk _ (.inr hfresh))
    · -- the nil slice
      rename_i es
      obtain ⟨hbytes, hk0, hk1⟩ := h
      rw [es] at rs
      have rs1 := (rs.one rfl).scalar rfl
      generalize hes : a.eval s = sv at rs1
      cases rs1
      by_cases hx0 : xs = []
      · refine hzero .nils _ _ _ hx0 hes (Nat.le_refl _) ?_ (hk0 hx0)
        rw [hes] at rs
        exact rs
      · obtain ⟨ad, rfl, hnw⟩ := hnews hx0
        have hxpos : 0 < xs.length := List.length_pos_iff.2 hx0
        have hneed : xs.length * 1 ≤ xs.length * inf.bytes := Nat.mul_le_mul_left _ hby
        have hrun := run_append_nil (P := P) c.w t type e inf zv ht hinf hi2 ad xs.length capx news (by rw [hsz]; exact hln) hnw hxpos (by omega) (by omega)
        refine hnew [] [] c.H none 0 .snil (by simp) hes (by simpa using hbytes) (fun _ _ h => h) ?_ ?_
        · simpa using hrun
        · simpa using hk1 hx0 _ hfresh
    · exact h.elim
  · exact h.elim

theorem run_buildSlice {P : Program} {w : World} {t e : TypeId} {m s : Nat} {inf : TypeInfo} {zv : Value} (ht : P.underlying t = some (.slice e)) (hse : szOf P e = some (s + 1)) (hi1 : P.info? e = some inf) (hi2 : inf.zero = some zv)
    (hm : m * (s + 1) ≤ 65536) (ps : Array (Nat × Value)) (out : Array Value)
    (ho : Instr.fill (fun i => some (i * (s + 1), s + 1)) ((Array.range (m * (s + 1))).map (fun x => (if m * (s + 1) = 0 then #[] else zv.cells)[x % (if m * (s + 1) = 0 then #[] else zv.cells).size]!)) ps.toList = some out) :
    (Instr.buildSlice t m ps).run P w = .ok (.slice (some ⟨w.heap.size, 0, none⟩) m m) (w.alloc (.cells out e)) := by
  have hlim : ¬ (m * (s + 1) > 2 ^ 24) := by omega
  unfold Instr.buildSlice
  simp only [Sem.run_bind, run_underlying ht, Result.andThen_ok, szOf_run hse]
  by_cases h0 : m * (s + 1) = 0
  · rw [if_pos h0] at ho
    simp [h0, newRow]
    simp [h0] at ho
    simp [ho]
  · rw [if_neg h0] at ho
    rw [if_neg hlim, if_neg h0]
    simp only [Sem.run_bind, Sem.run_pure, Result.andThen_ok, zeroValue, typeInfo, run_program, hi1, hi2, ho]
    rfl

/-! ### Sets of strings -/
theorem isSetT_parts {P : Program} {t : TypeId} (h : isSetT P t = true) : ∃ K E, P.underlying t = some (.map K E) ∧ P.underlying K = some .string ∧ zeroAV P E = some (.struct []) := by
  unfold isSetT at h
  split at h
  · rename_i K E h1
    split at h
    · rename_i h2 h3
      exact ⟨K, E, h1, h2, h3⟩
    · cases h
  · cases h

theorem agg_empty {c : Cx} {u : Value} (h : Rep1 c (.struct []) u) : u = .agg #[] := by
  obtain ⟨h1, h2⟩ := h
  cases u <;> simp [valAgg, AV.isAgg] at h2
  rename_i cs
  have : cs.toList = [] := by
    have h3 : RepC c (.struct []) cs.toList := by simpa [Value.cells] using h1
    generalize cs.toList = l at h3
    cases h3
    rfl
  have e : cs = #[] := by
    rw [← Array.toArray_toList (xs := cs), this]
  rw [e]

theorem setAt_keys {l : List (List UInt8)} {es : Array MapEntry} (h : SetAt l es) : ∀ x ∈ es.toList, MapKept.IsKey .string x.key := by
  intro x hx
  have : x.key ∈ es.toList.map (fun x => x.key) := List.mem_map_of_mem hx
  rw [h.1] at this
  obtain ⟨s, _, e⟩ := List.mem_map.1 this
  rw [← e]
  simp [MapKept.IsKey]

theorem str_inj {a b : List UInt8} (h : (Value.string ⟨a.toArray⟩) = .string ⟨b.toArray⟩) : a = b := by
  injection h with h
  injection h with h
  have := congrArg Array.toList h
  simpa using this

theorem findNow_set {l : List (List UInt8)} {es : Array MapEntry} (h : SetAt l es) (s : List UInt8) :
    (l.contains s = false ∧ Instr.findNow .string (.string ⟨s.toArray⟩) es.toList 0 = some none) ∨ (l.contains s = true ∧ ∃ j, Instr.findNow .string (.string ⟨s.toArray⟩) es.toList 0 = some (some (j, .agg #[]))) := by
  have hk : MapKept.IsKey .string (.string ⟨s.toArray⟩) := by simp [MapKept.IsKey]
  rcases MapKept.findNow_spec hk es.toList 0 (setAt_keys h) with ⟨h1, h2⟩ | ⟨j, e, h1, h2, h3⟩
  · left
    refine ⟨?_, h1⟩
    cases hc : l.contains s with
    | false => rfl
    | true =>
      have hm : s ∈ l := by simpa using hc
      have : (Value.string ⟨s.toArray⟩) ∈ es.toList.map (fun x => x.key) := by rw [h.1]; exact List.mem_map_of_mem hm
      obtain ⟨x, hx, ex⟩ := List.mem_map.1 this
      exact absurd ex (h2 x hx)
  · right
    have hmem := List.mem_of_getElem? h2
    refine ⟨?_, 0 + j, by rw [h1, h.2 e hmem]⟩
    have : e.key ∈ es.toList.map (fun x => x.key) := List.mem_map_of_mem hmem
    rw [h.1] at this
    obtain ⟨s', hs', ex⟩ := List.mem_map.1 this
    rw [h3] at ex
    have := str_inj ex
    subst this
    simpa using hs'

theorem run_lookup_set {P : Program} {w : World} {t K E : TypeId} {b : Nat} {s : List UInt8} {l : List (List UInt8)} {es : Array MapEntry} {clock : Nat} (ht : P.underlying t = some (.map K E)) (hK : P.underlying K = some .string)
    (hz : (zeroValue E).run P w = .ok (.agg #[]) w) (hb : w.heap[b]? = some (.map es clock)) (hs : SetAt l es) :
    (Instr.lookup t (.map (some b)) (.string ⟨s.toArray⟩) true).run P w = .ok (.tuple #[.agg #[], .bool (l.contains s)]) w := by
  have hc : ∀ e, (Instr.checkKey e 10000 K (.string ⟨s.toArray⟩)).run P w = .ok () w := fun e => MapKept.run_checkKey (k := .string ⟨s.toArray⟩) hK (by simp [MapKept.IsKey]) e 9999
  rcases findNow_set hs s with ⟨h1, h2⟩ | ⟨h1, j, h2⟩
  · simp only [Instr.lookup, Sem.run_bind, run_underlying ht, Result.andThen_ok, MapKept.run_getObj_map hb, Sem.run_pure, hc, MapKept.run_findKey hK h2, hz, h1]
    rfl
  · simp only [Instr.lookup, Sem.run_bind, run_underlying ht, Result.andThen_ok, MapKept.run_getObj_map hb, Sem.run_pure, hc, MapKept.run_findKey hK h2, h1]
    rfl

theorem run_update_set {P : Program} {w : World} {t K E : TypeId} {b : Nat} {s : List UInt8} {l : List (List UInt8)} {es : Array MapEntry} {clock : Nat} (ht : P.underlying t = some (.map K E)) (hK : P.underlying K = some .string)
    (hb : w.heap[b]? = some (.map es clock)) (hs : SetAt l es) (hn : l.contains s = false) :
    (Instr.mapUpdate t (.map (some b)) (.string ⟨s.toArray⟩) (.agg #[])).run P w = .ok () { w with heap := w.heap.setIfInBounds b (.map (es.push { key := .string ⟨s.toArray⟩, val := .agg #[], born := clock }) (clock + 1)) } := by
  have hc : ∀ e, (Instr.checkKey e 10000 K (.string ⟨s.toArray⟩)).run P w = .ok () w := fun e => MapKept.run_checkKey (k := .string ⟨s.toArray⟩) hK (by simp [MapKept.IsKey]) e 9999
  rcases findNow_set hs s with ⟨h1, h2⟩ | ⟨h1, j, h2⟩
  · simp only [Instr.mapUpdate, Sem.run_bind, run_underlying ht, Result.andThen_ok, MapKept.run_getObj_map hb, Sem.run_pure, hc, MapKept.run_findKey hK h2, MapKept.run_setObj_map _ hb]
  · rw [hn] at h1; cases h1

theorem setAt_push {l : List (List UInt8)} {es : Array MapEntry} (h : SetAt l es) (s : List UInt8) (clock : Nat) : SetAt (l ++ [s]) (es.push { key := .string ⟨s.toArray⟩, val := .agg #[], born := clock }) := by
  refine ⟨by simp [h.1], fun x hx => ?_⟩
  simp at hx
  rcases hx with hx | rfl
  · exact h.2 x (by simpa using hx)
  · rfl

theorem aop_sound {P : Program} {own : Bool} {o : Oper} {op : AOp} (hc : compOp P own o = some op) {c : Cx} {n : Nat} {env : Env} {a : Act} (hs : RS c n env a) (hh : RH c)
    {K : AV → AHeap → Prop} {Kp : Value → AHeap → Prop} (h : aop P c.H env op K Kp) {next : Act → World → Prop} {Q : Exit → Act → World → Prop}
    (hK : ∀ (d : Cx) (v : AV) (u : Value), c.Le d → RH d → RepV d v u → K v d.H → next (a.put o.dst u) d.w)
    (hp : ∀ (d : Cx) (pv : Value), c.Le d → RH d → Kp pv d.H → Q (.panic [{ v := pv, recovered := false }]) a d.w) : o.wp P a c.w next Q := by
  have hc0 := hc
  obtain ⟨dst, opp, type, pos, after, guard⟩ := o
  cases opp with
  | alloc e =>
    by_cases hown : own = true
    · simp only [compOp, hown, if_true, compBld] at hc
      split at hc
      · rename_i z x hz hx
        split at hc
        · rename_i hbz
          injection hc with hc
          subst hc
          simp only [aop] at h
          obtain ⟨_, inf, zv, hi1, hi2, hrz⟩ := zeroAV_rep hz
          have hzc : zv.cells = #[.pointer none, .slice none 0 0] := by
            have hr := (hrz c).1
            have : zv.cells.toList = [.pointer none, .slice none 0 0] := by
              generalize zv.cells.toList = cs at hr
              unfold isBldZ at hbz
              split at hbz
              · cases hr with
                | scons r1 r2 => cases r1; cases r2 with
                  | scons r3 r4 => cases r3; cases r4; rfl
              · cases hr with
                | scons r1 r2 =>
                  cases r2
                  cases r1 with
                  | scons r1 r2 => cases r1; cases r2 with
                    | scons r3 r4 => cases r3; cases r4; rfl
              · cases hbz
            rw [← Array.toArray_toList (xs := zv.cells), this]
          have hfresh : c.H c.w.heap.size = none := by
            cases hq : c.H c.w.heap.size with
            | none => rfl
            | some o => have := hh.lt _ o hq; omega
          let d : Cx := { c with w := c.w.alloc (.cells zv.cells e), H := c.H.set c.w.heap.size (.bld [] e x) }
          have hw : d.w.heap = c.w.heap.push (.cells zv.cells e (0, 0)) := rfl
          have hle : c.Le d := Cx.Le.push hh rfl hw rfl rfl rfl (fun _ _ => Nat.le_refl _) fun b n s t hlt hr => by
            have : d.H b = c.H b := AHeap.set_ne _ _ (by omega)
            rw [← this]; exact hr
          have hrh : RH d := RH.push_bld hh hle rfl (by rw [hw, hzc]) rfl rfl
          have hrun : (execOp a.eval ⟨dst, .alloc e, type, pos, after, guard⟩).run P c.w = .ok (.value (.pointer (some ⟨c.w.heap.size, 0, none⟩))) d.w := by
            simp [execOp, Instr.alloc, zeroValue, typeInfo, hi1, hi2, newVar, newRow]
            rfl
          unfold Oper.wp
          rw [hrun]
          exact hK d _ _ hle hrh (Rep1.of_scalar (.ptr _ _ _) rfl rfl).v (h _ hfresh)
        · cases hc
      · cases hc
    rw [Bool.not_eq_true] at hown
    simp only [compOp, hown, Bool.false_eq_true, if_false, Option.map_eq_some_iff] at hc
    obtain ⟨z, hz, rfl⟩ := hc
    simp only [aop] at h
    obtain ⟨_, inf, zv, hi1, hi2, hrz⟩ := zeroAV_rep hz
    have hfresh : c.H c.w.heap.size = none := by
      cases hq : c.H c.w.heap.size with
      | none => rfl
      | some o => have := hh.lt _ o hq; omega
    let d : Cx := { c with w := c.w.alloc (.cells zv.cells e), H := c.H.set c.w.heap.size (.box z) }
    have hw : d.w.heap = c.w.heap.push (.cells zv.cells e (0, 0)) := rfl
    have hle : c.Le d := Cx.Le.push hh rfl hw rfl rfl rfl (fun _ _ => Nat.le_refl _) fun b n s t hlt hr => by
      have : d.H b = c.H b := AHeap.set_ne _ _ (by omega)
      rw [← this]; exact hr
    have hrh : RH d := RH.push_box hh hle rfl hw rfl rfl (hrz c).1
    have hrun : (execOp a.eval ⟨dst, .alloc e, type, pos, after, guard⟩).run P c.w = .ok (.value (.pointer (some ⟨c.w.heap.size, 0, none⟩))) d.w := by
      simp [execOp, Instr.alloc, zeroValue, typeInfo, hi1, hi2, newVar, newRow]
      rfl
    unfold Oper.wp
    rw [hrun]
    exact hK d _ _ hle hrh (Rep1.of_scalar (.ptr _ _ _) rfl rfl).v (h _ hfresh)
  | box e x =>
    simp only [compOp, Option.bind_eq_bind, Option.bind_eq_some_iff, Option.pure_def, Option.some.injEq] at hc
    obtain ⟨sz, hsz, y, hy, rfl⟩ := hc
    simp only [aop] at h
    obtain ⟨⟨h1, h2⟩, h3⟩ := h
    have hx := (compOpd_rep hy hs).one h2
    have hfresh : c.H c.w.heap.size = none := by
      cases hq : c.H c.w.heap.size with
      | none => rfl
      | some o => have := hh.lt _ o hq; omega
    let d : Cx := { c with w := c.w.alloc (.cells (a.eval x).cells e), H := c.H.set c.w.heap.size (.box (y.ev env)) }
    have hw : d.w.heap = c.w.heap.push (.cells (a.eval x).cells e (0, 0)) := rfl
    have hle : c.Le d := Cx.Le.push hh rfl hw rfl rfl rfl (fun _ _ => Nat.le_refl _) fun b n s t hlt hr => by
      have : d.H b = c.H b := AHeap.set_ne _ _ (by omega)
      rw [← this]; exact hr
    have hrh : RH d := RH.push_box hh hle rfl hw rfl rfl hx.1
    have hrun : (execOp a.eval ⟨dst, .box e x, type, pos, after, guard⟩).run P c.w = .ok (.value (.pointer (some ⟨c.w.heap.size, 0, none⟩))) d.w := by
      simp [execOp, Instr.box, newVar, newRow]
      rfl
    unfold Oper.wp
    rw [hrun]
    exact hK d _ _ hle hrh (Rep1.of_scalar (.ptr _ _ _) rfl rfl).v (h3 _ hfresh)
  | store t p x =>
    simp only [compOp, Option.bind_eq_bind, Option.bind_eq_some_iff, Option.pure_def, Option.some.injEq] at hc
    obtain ⟨sz, hsz, p', hp', x', hx', rfl⟩ := hc
    simp only [aop] at h
    have rp := compOpd_rep hp' hs
    split at h
    · rename_i b off q e1
      rw [e1] at rp
      split at h
      · rename_i ct hb
        obtain ⟨v0, hat, ⟨ho, hs0, hs1, hsto⟩, hk⟩ := h
        have rx := (compOpd_rep hx' hs).one hsto
        obtain ⟨cs, e, hheap, hr, _⟩ := hh.boxCells hb
        obtain ⟨pre, mid, post, ec, el, hm, hput⟩ := path_part q hr hat
        have hml : mid.length = sz := by rw [hm.length, hs0]
        have hnl : (a.eval x).cells.toList.length = sz := by rw [rx.1.length, hs1]
        have hcs : cs.size = off + sz + post.length := by rw [← Array.length_toList, ec]; simp; omega
        let cs' : Array Value := (cs.toList.take (off + 0) ++ (a.eval x).cells.toList ++ cs.toList.drop (off + 0 + (a.eval x).cells.toList.length)).toArray
        let d : Cx := { c with w := c.w.setRow b cs', H := c.H.set b (.box (ct.put q (x'.ev env))) }
        have hst := run_storeCells_at P b off e (a.eval x).cells.toList 0 cs c.w hheap (by omega) rx.1.oneCell
        have hw : d.w.heap[b]? = some (.cells cs' e (0, 0)) := setRow_heap c.w b cs cs' e (0, 0) hheap
        have hother : ∀ y, y ≠ b → d.w.heap[y]? = c.w.heap[y]? := fun y hy => setRow_other c.w b y cs' hy
        have hsize : d.w.heap.size = c.w.heap.size := size_setRow c.w b cs'
        have hle : c.Le d := Cx.Le.write hh hb rfl hsize hother rfl rfl rfl rfl rfl
        have hcs' : cs'.toList = pre ++ (a.eval x).cells.toList ++ post := by
          show cs.toList.take (off + 0) ++ (a.eval x).cells.toList ++ cs.toList.drop (off + 0 + (a.eval x).cells.toList.length) = _
          rw [ec, hnl, Nat.add_zero, ← ho, ← el, List.append_assoc pre mid post, List.take_left]
          congr 1
          rw [← List.append_assoc, ← hml, ← List.length_append, List.drop_left]
        have hrh : RH d := RH.write hh hle hb rfl hsize hother rfl rfl hw (by rw [hcs']; exact hput d hle _ _ (rx.1.mono hle))
        have hszrun : (sizeOf t).run P c.w = .ok sz c.w := szOf_run hsz c.w
        have hnl' : (a.eval x).cells.size = sz := by simpa using hnl
        have hrun : (execOp a.eval ⟨dst, .store t p x, type, pos, after, guard⟩).run P c.w = .ok .skip d.w := by
          simp only [execOp, rp.ptr, Instr.storeAt, Instr.sureAddr, Sem.run_bind, Sem.run_pure, Result.andThen_ok, storeVar, hszrun, hnl', ne_eq, not_true_eq_false, if_false, hst]
          rfl
        unfold Oper.wp
        rw [hrun]
        exact hK d .undef undef hle hrh (.inl rfl) hk
      · exact h.elim
    · exact h.elim
  | panic x =>
    simp only [compOp, Option.map_eq_some_iff] at hc
    obtain ⟨y, hy, rfl⟩ := hc
    simp only [aop] at h
    have rx := compOpd_rep hy hs
    split at h
    · rename_i t kd m e
      rw [e] at rx
      obtain ⟨z, e1, hz⟩ := rx.iface
      have hz' := hz.v.int
      subst hz'
      have hrun : (execOp a.eval ⟨dst, .panic x, type, pos, after, guard⟩).run P c.w = .halt (.panic (.iface t (.int kd m))) c.w := by
        simp [execOp, e1, Instr.panic]
      unfold Oper.wp
      rw [hrun]
      exact hp c _ (Cx.Le.refl c) hh h
    · exact h.elim
  | buildSlice t m ps =>
    simp only [compOp] at hc
    split at hc
    · rename_i e ht
      split at hc
      · rename_i s z hse hz
        split at hc
        · rename_i hcond
          simp only [Bool.and_eq_true, decide_eq_true_eq, beq_iff_eq] at hcond
          simp only [Option.map_eq_some_iff] at hc
          obtain ⟨ps', hps, rfl⟩ := hc
          simp only [aop] at h
          obtain ⟨hparts, hk⟩ := h
          obtain ⟨_, inf, zv, hi1, hi2, hrz⟩ := zeroAV_rep hz
          have hzl : zv.cells.toList.length = s + 1 := by rw [(hrz c).1.length, hcond.2]
          have hzl' : zv.cells.size = s + 1 := by simpa using hzl
          let zcells : Array Value := (Array.range (m * (s + 1))).map (fun x => (if m * (s + 1) = 0 then #[] else zv.cells)[x % (if m * (s + 1) = 0 then #[] else zv.cells).size]!)
          have hzrep : RepC c (.struct (List.replicate m z)) zcells.toList := by
            refine zeros_rep (hrz c).1 hzl m _ (by simp [zcells]) fun k hk => ?_
            have hne : ¬ m * (s + 1) = 0 := by omega
            have hmod : k % (s + 1) < zv.cells.size := by rw [hzl']; exact Nat.mod_lt _ (by omega)
            simp only [zcells, if_neg hne, hzl']
            rw [Array.getElem?_toList, Array.getElem?_map, Array.getElem?_range]
            rw [if_pos hk]
            simp [hmod]
          obtain ⟨el, er⟩ := compParts_rep hps hs
          obtain ⟨out, ho1, ho2⟩ := fill_rep (fun i => some (i * (s + 1), s + 1)) (ps'.map fun p => (p.1, p.2.ev env)) (ps.toList.map fun p => (p.1, a.eval p.2)) (List.replicate m z) zcells c hzrep (by simpa using el) er
            (fun j hj => by
              have hjm : j < m := by simpa using hj
              have h1 : AV.sizes ((List.replicate m z).take j) = j * (s + 1) := by
                rw [sizes_all (s := s + 1) (fun v hv => by rw [List.eq_of_mem_replicate (List.mem_of_mem_take hv)]; exact hcond.2)]
                rw [List.length_take, List.length_replicate, Nat.min_eq_left (Nat.le_of_lt hjm)]
              rw [h1]
              simp [List.getD_eq_getElem?_getD, hjm, hcond.2]) hparts
          let l := setAll (List.replicate m z) (ps'.map fun p => (p.1, p.2.ev env))
          have hlsz := setAll_sizes _ _ hparts
          have hll : l.length = m := by
            have := congrArg List.length hlsz
            simpa [l] using this
          have hels : ∀ v ∈ l, v.size = s + 1 := by
            intro v hv
            have : v.size ∈ l.map AV.size := List.mem_map_of_mem hv
            rw [hlsz] at this
            simp at this
            rw [this.2, hcond.2]
          have hol : out.size = m * (s + 1) := by
            have := ho2.length
            simp only [AV.size, Array.length_toList] at this
            rw [this, sizes_all hels, hll]
          have hrunB : ∀ w' : World, c.w.alloc (.cells out e) = w' → (execOp a.eval ⟨dst, .buildSlice t m ps, type, pos, after, guard⟩).run P c.w = .ok (.value (.slice (some ⟨c.w.heap.size, 0, none⟩) m m)) w' := by
            rintro w' rfl
            have hpsl : (ps.map fun (p : Nat × Operand) => (p.1, a.eval p.2)).toList = ps.toList.map fun p => (p.1, a.eval p.2) := by simp
            have this := run_buildSlice (P := P) (w := c.w) ht hse hi1 hi2 hcond.1 (ps.map fun (p : Nat × Operand) => (p.1, a.eval p.2)) out (by rw [hpsl]; exact ho1)
            simp only [execOp, Sem.run_bind, this, Result.andThen_ok, Sem.run_pure]
          have hfresh : c.H c.w.heap.size = none := by
            cases hq : c.H c.w.heap.size with
            | none => rfl
            | some o => have := hh.lt _ o hq; omega
          cases own with
          | false =>
            simp only at hk
            let d : Cx := { c with w := c.w.alloc (.cells out e), lim := fun b => if b = c.w.heap.size then m * (s + 1) else c.lim b }
            have hw : d.w.heap = c.w.heap.push (.cells out e (0, 0)) := rfl
            have hle : c.Le d := Cx.Le.push hh rfl hw rfl rfl rfl (fun b hb => by simp only [d]; rw [if_neg (by omega)]; exact Nat.le_refl _) fun b n s t hlt hr => hr
            have hrh : RH d := RH.push_plain hh hle rfl hw (fun b hb => by simp only [d]; rw [if_neg hb]) rfl
            have hla : ListAt d (s + 1) l (some ⟨c.w.heap.size, 0, none⟩) m := listAt_block (heap_push_new hw) (ho2.mono hle) hels (fun i u hu => by rw [← Array.getElem?_toList]; exact hu)
              (by simp [d, hll]) (by omega) (by
                have := hcond.1
                have h1 : m * 1 ≤ m * (s + 1) := Nat.mul_le_mul_left _ (by omega)
                simp only [maxLen]; omega)
            unfold Oper.wp
            rw [hrunB d.w rfl]
            have := hla.repV
            rw [hll] at this
            exact hK d _ _ hle hrh this hk
          | true =>
            simp only at hk
            let d : Cx := { c with w := c.w.alloc (.cells out e), lim := fun b => if b = c.w.heap.size then m * (s + 1) else c.lim b, H := c.H.set c.w.heap.size (.row m (s + 1) e) }
            have hw : d.w.heap = c.w.heap.push (.cells out e (0, 0)) := rfl
            have hle : c.Le d := Cx.Le.push hh rfl hw rfl rfl rfl (fun b hb => by simp only [d]; rw [if_neg (by omega)]; exact Nat.le_refl _) fun b n s t hlt hr => by
              have : d.H b = c.H b := AHeap.set_ne _ _ (by omega)
              rw [← this]; exact hr
            have hrh : RH d := RH.push_row (H0 := c.H) hh hle rfl hw (fun b hb => by simp only [d]; rw [if_neg hb]) (by simp [d]) (fun _ _ h => h) rfl (by omega)
            have hown : RepC d (.own (s + 1) l c.w.heap.size) [.slice (some ⟨c.w.heap.size, 0, none⟩) l.length m] := own_block (heap_push_new hw) (ho2.mono hle) hels (fun i u hu => by rw [← Array.getElem?_toList]; exact hu)
              (by simp [d, hll]) (by omega) (by
                have := hcond.1
                have h1 : m * 1 ≤ m * (s + 1) := Nat.mul_le_mul_left _ (by omega)
                simp only [maxLen]; omega) (by rw [hll]; exact AHeap.set_same _ _ _) hol
            unfold Oper.wp
            rw [hrunB d.w rfl]
            rw [hll] at hown
            exact hK d _ _ hle hrh (Rep1.of_scalar hown rfl rfl).v (hk _ hfresh)
        · cases hc
      · cases hc
    · cases hc
  | call cl =>
    obtain ⟨callee, args, tys⟩ := cl
    cases callee with
    | value f =>
      simp only [compOp, Option.bind_eq_bind, Option.bind_eq_some_iff, Option.pure_def, Option.some.injEq] at hc
      obtain ⟨f', hf', xs', hxs', rfl⟩ := hc
      have rf := compOpd_rep hf' hs
      obtain ⟨el, er⟩ := compOpds_rep hxs' hs
      simp only [aop] at h
      split at h
      · rename_i F l1 l2 e1
        rw [e1] at rf
        obtain ⟨u1, u2, eu, g1, g2, r1, r2⟩ := rf.fn
        have hrun := aop_call_run (P := P) (w := c.w) (dst := dst) (type := type) (pos := pos) (after := after) (guard := guard) (args := args) (tys := tys) eu h.1
        have hcalls := h.2 c (u1 ++ args.toList.map a.eval ++ u2) rfl hh (by simp [g1, g2]; simpa using el) (fun j v u hv hu => by
          have hlen1 : (args.toList.map a.eval).length = (xs'.map (Opd.ev env)).length := by simpa using el
          rw [List.append_assoc] at hv hu
          rcases Nat.lt_or_ge j l1.length with hj | hj
          · rw [List.getElem?_append_left hj] at hv
            rw [List.getElem?_append_left (by omega)] at hu
            exact (r1 j v u hv hu).v
          · rw [List.getElem?_append_right hj] at hv
            rw [List.getElem?_append_right (by omega), g1] at hu
            rcases Nat.lt_or_ge (j - l1.length) (xs'.map (Opd.ev env)).length with hj2 | hj2
            · rw [List.getElem?_append_left hj2] at hv
              rw [List.getElem?_append_left (by omega)] at hu
              exact er _ v u hv hu
            · rw [List.getElem?_append_right hj2] at hv
              rw [List.getElem?_append_right (by omega), hlen1] at hu
              exact (r2 _ v u hv hu).v)
        unfold Oper.wp
        rw [hrun]
        rw [Oper.upon_enter]
        have hargs : u1.toArray ++ args.map a.eval ++ u2.toArray = (u1 ++ args.toList.map a.eval ++ u2).toArray := by
          apply Array.ext'
          simp
        rw [hargs]
        refine hcalls.mono fun e w' ⟨d, e1, e2, e3, e4⟩ => ?_
        subst e1
        cases e with
        | returned u => obtain ⟨v, hpost, hrep⟩ := e4; exact hK d v u e2 e3 hrep hpost
        | panicked chain => obtain ⟨pv, rfl, hpost⟩ := e4; exact hp d pv e2 e3 hpost
        | outgrown => exact e4.elim
      · exact h.elim
    | invoke r m => simp only [compOp, reduceCtorEq] at hc
    | builtin b =>
      cases b <;> try (simp only [compOp, reduceCtorEq] at hc; done)
      case append =>
        simp only [compOp] at hc
        split at hc
        · rename_i t t2 s x e1 e2
          have g1 : tys = #[t, t2] := by rw [show tys = tys.toList.toArray from by simp, e1]
          have g2 : args = #[s, x] := by rw [show args = args.toList.toArray from by simp, e2]
          subst g1 g2
          split at hc
          · rename_i htt
            simp only [beq_iff_eq] at htt
            subst htt
            split at hc
            · rename_i e ht
              split at hc
              · rename_i inf hinf
                split at hc
                · rename_i sz z hsz hz
                  split at hc
                  · rename_i hcond
                    simp only [Bool.and_eq_true, decide_eq_true_eq, beq_iff_eq] at hcond
                    simp only [Option.bind_eq_bind, Option.bind_eq_some_iff, Option.pure_def, Option.some.injEq] at hc
                    obtain ⟨s', hs', x', hx', rfl⟩ := hc
                    exact append_sound hs hh ht hinf hsz hz hcond.1 hcond.2 (compOpd_rep hs' hs) (compOpd_rep hx' hs) h hK
                  · cases hc
                · cases hc
              · cases hc
            · cases hc
          · cases hc
        · cases hc
      all_goals
        refine aop_pure hc0 hs hh ?_ hK
        simp only [compOp] at hc
        repeat' (split at hc)
        all_goals first
          | (cases hc; done)
          | (simp only [Option.map_eq_some_iff] at hc; obtain ⟨_, _, rfl⟩ := hc; exact h)
          | (simp only [Option.bind_eq_bind, Option.bind_eq_some_iff, Option.pure_def, Option.some.injEq] at hc; obtain ⟨_, _, _, _, rfl⟩ := hc; exact h)
  | makeMap t r =>
    cases r <;> simp only [compOp, reduceCtorEq] at hc
    split at hc
    · injection hc with hc
      subst hc
      simp only [aop] at h
      have hfresh : c.H c.w.heap.size = none := by
        cases hq : c.H c.w.heap.size with
        | none => rfl
        | some o => have := hh.lt _ o hq; omega
      let d : Cx := { c with w := c.w.alloc (.map #[] 0), H := c.H.set c.w.heap.size (.mp []) }
      have hw : d.w.heap = c.w.heap.push (.map #[] 0) := rfl
      have hsz : d.w.heap.size = c.w.heap.size + 1 := by rw [hw]; simp
      have hle : c.Le d := Cx.Le.mp_step (b0 := c.w.heap.size) hh rfl rfl (by omega) rfl rfl rfl (fun x hx _ => heap_push_old hw hx) (.inl rfl) rfl
      have hrh : RH d := RH.mp_step (b0 := c.w.heap.size) hh hle rfl rfl (by omega) (by omega) (fun x hx _ => heap_push_old hw hx) (.inl rfl) rfl (heap_push_new hw) ⟨rfl, fun x hx => by simp at hx⟩
      have hrun : (execOp a.eval ⟨dst, .makeMap t none, type, pos, after, guard⟩).run P c.w = .ok (.value (.map (some c.w.heap.size))) d.w := by
        simp [execOp, Instr.makeMap]
        rfl
      unfold Oper.wp
      rw [hrun]
      exact hK d _ _ hle hrh (Rep1.of_scalar (.mapp _) rfl rfl).v (h _ hfresh)
    · cases hc
  | lookup t x y ok =>
    cases ok <;> simp only [compOp, reduceCtorEq] at hc
    split at hc
    · rename_i hset
      obtain ⟨K', E, ht, hKs, hz⟩ := isSetT_parts hset
      simp only [Option.bind_eq_bind, Option.bind_eq_some_iff, Option.pure_def, Option.some.injEq] at hc
      obtain ⟨x', hx', y', hy', rfl⟩ := hc
      have rx := compOpd_rep hx' hs
      have ry := compOpd_rep hy' hs
      simp only [aop] at h
      split at h
      · rename_i b s e1 e2
        rw [e1] at rx
        rw [e2] at ry
        split at h
        · rename_i l hl
          obtain ⟨es, clock, hb, hset'⟩ := hh.x.mp b l hl
          have hxv : a.eval x = .map (some b) := by
            have := (rx.one rfl).scalar rfl
            generalize a.eval x = u at this
            cases this
            rfl
          obtain ⟨hyv, _⟩ := ry.str
          obtain ⟨_, inf, zv, hi1, hi2, hrz⟩ := zeroAV_rep hz
          have hzv := agg_empty (hrz c)
          subst hzv
          have hzr : (zeroValue E).run P c.w = .ok (.agg #[]) c.w := by simp [zeroValue, typeInfo, hi1, hi2]
          have hrun : (execOp a.eval ⟨dst, .lookup t x y true, type, pos, after, guard⟩).run P c.w = .ok (.value (.tuple #[.agg #[], .bool (l.contains s)])) c.w := by
            simp [execOp, hxv, hyv, run_lookup_set ht hKs hzr hb hset']
          unfold Oper.wp
          rw [hrun]
          refine hK c _ _ (Cx.Le.refl c) hh (.inr (.inr ⟨_, [.agg #[], .bool (l.contains s)], rfl, rfl, rfl, fun j p q hp' hq => ?_⟩)) h
          match j with
          | 0 => simp at hp' hq; subst hp' hq; exact hrz c
          | 1 => simp at hp' hq; subst hp' hq; exact ⟨.bool _, rfl⟩
          | j + 2 => simp at hp'
        · exact h.elim
      · exact h.elim
    · cases hc
  | mapUpdate t m y x =>
    simp only [compOp] at hc
    split at hc
    · rename_i hset
      obtain ⟨K', E, ht, hKs, hz⟩ := isSetT_parts hset
      simp only [Option.bind_eq_bind, Option.bind_eq_some_iff, Option.pure_def, Option.some.injEq] at hc
      obtain ⟨m', hm', y', hy', x', hx', rfl⟩ := hc
      have rm := compOpd_rep hm' hs
      have rx := compOpd_rep hx' hs
      have ry := compOpd_rep hy' hs
      simp only [aop] at h
      split at h
      · rename_i b s e1 e2 e3
        rw [e1] at rm
        rw [e2] at ry
        rw [e3] at rx
        split at h
        · rename_i l hl
          obtain ⟨hn, hk⟩ := h
          obtain ⟨es, clock, hb, hset'⟩ := hh.x.mp b l hl
          have hmv : a.eval m = .map (some b) := by
            have := (rm.one rfl).scalar rfl
            generalize a.eval m = u at this
            cases this
            rfl
          obtain ⟨hyv, _⟩ := ry.str
          have hxv := agg_empty (rx.one rfl)
          have hblt := hh.lt b _ hl
          let d : Cx := { c with w := { c.w with heap := c.w.heap.setIfInBounds b (.map (es.push { key := .string ⟨s.toArray⟩, val := .agg #[], born := clock }) (clock + 1)) }, H := c.H.set b (.mp (l ++ [s])) }
          have hhs := MapKept.heap_set (o' := .map (es.push { key := .string ⟨s.toArray⟩, val := .agg #[], born := clock }) (clock + 1)) hb
          have hsz : d.w.heap.size = c.w.heap.size := by simp [d]
          have hoth : ∀ z, z < c.w.heap.size → z ≠ b → d.w.heap[z]? = c.w.heap[z]? := fun z _ hzb => hhs.2 z hzb
          have hle : c.Le d := Cx.Le.mp_step (b0 := b) hh rfl rfl (by omega) rfl rfl rfl hoth (.inr ⟨l, hl⟩) rfl
          have hrh : RH d := RH.mp_step (b0 := b) hh hle rfl rfl (by omega) (by omega) hoth (.inr ⟨l, hl⟩) rfl hhs.1 (setAt_push hset' s clock)
          have hrun : (execOp a.eval ⟨dst, .mapUpdate t m y x, type, pos, after, guard⟩).run P c.w = .ok .skip d.w := by
            simp [execOp, hmv, hyv, hxv, run_update_set ht hKs hb hset' hn]
            rfl
          unfold Oper.wp
          rw [hrun]
          exact hK d .undef undef hle hrh (.inl rfl) hk
        · exact h.elim
      · exact h.elim
    · cases hc
  | convert src dst' x =>
    by_cases hsb : ∃ e, P.underlying src = some .string ∧ P.underlying dst' = some (.slice e) ∧ P.underlying e = some (.int .u8)
    · obtain ⟨e, h1, h2, h3⟩ := hsb
      simp only [compOp, h1, h2, h3, Option.map_eq_some_iff] at hc
      obtain ⟨y, hy, rfl⟩ := hc
      have hx' := compOpd_rep hy hs
      simp only [aop] at h
      split at h
      · rename_i s e1
        rw [e1] at hx'
        obtain ⟨hxv, hsl⟩ := hx'.str
        have hrunc := run_bytes_of_string (P := P) c.w src dst' e ⟨s.toArray⟩ h1 h2 h3
        have hcge := grownCap_ge c.w (⟨s.toArray⟩ : ByteArray).size 0 e
        have hcle := grownCap_le_maxLen c.w (⟨s.toArray⟩ : ByteArray).size 0 e hsl
        have hss : (⟨s.toArray⟩ : ByteArray).size = s.length := rfl
        rw [hss] at hrunc hcge hcle
        generalize grownCap c.w s.length 0 e = cap at hrunc hcge hcle
        let out := bytesRow ⟨s.toArray⟩ cap
        let d : Cx := { c with w := c.w.drew.alloc (.cells out e (out.size, out.size + 1)), lim := fun b => if b = c.w.heap.size then s.length * 1 else c.lim b }
        have hw : d.w.heap = c.w.heap.push (.cells out e (out.size, out.size + 1)) := rfl
        have hle : c.Le d := Cx.Le.push hh rfl hw rfl rfl rfl (fun b hb => by simp only [d]; rw [if_neg (by omega)]; exact Nat.le_refl _) fun b n s t hlt hr => hr
        have hrh : RH d := RH.push_plain hh hle rfl hw (fun b hb => by simp only [d]; rw [if_neg hb]) rfl
        have hrl : ∀ (l : List UInt8), RepC d (.struct (l.map fun b => .int .u8 (b.toNat : Int))) (byteVals l) := by
          intro l
          induction l with
          | nil => exact .snil
          | cons b l ih => exact .scons (.int _ _) ih
        have hla : ListAt d 1 (s.map fun b => .int .u8 (b.toNat : Int)) (some ⟨c.w.heap.size, 0, none⟩) cap := by
          refine listAt_block (heap_push_new hw) (hrl s) (fun v hv => by obtain ⟨b, _, rfl⟩ := List.mem_map.1 hv; rfl) (fun i u hu => ?_) (by simp [d]) (by simpa using hcge) hcle
          have hil : i < s.length := by
            have := (List.getElem?_eq_some_iff.1 hu).1
            simpa [byteVals] using this
          simp only [out, bytesRow]
          rw [Array.getElem?_append_left (by simpa using hil)]
          simpa [byteVals] using hu
        have hrun : (execOp a.eval ⟨dst, .convert src dst' x, type, pos, after, guard⟩).run P c.w = .ok (.value (.slice (some ⟨c.w.heap.size, 0, none⟩) s.length cap)) d.w := by
          simp only [execOp, hxv, Sem.run_bind, hrunc, Result.andThen_ok, Sem.run_pure]
          rfl
        unfold Oper.wp
        rw [hrun]
        have := hla.repV
        simp only [List.length_map] at this
        exact hK d _ _ hle hrh this h
      · exact h.elim
    · refine aop_pure hc0 hs hh ?_ hK
      simp only [compOp] at hc
      repeat' (split at hc)
      all_goals first
        | (cases hc; done)
        | (exact absurd ⟨_, ‹_›, ‹_›, ‹_›⟩ hsb)
        | (simp only [Option.map_eq_some_iff] at hc; obtain ⟨_, _, rfl⟩ := hc; exact h)
  | slice t x lo hi mx =>
    refine aop_pure hc0 hs hh ?_ hK
    cases mx <;> simp only [compOp, reduceCtorEq] at hc
    repeat' (split at hc)
    all_goals first
      | (cases hc; done)
      | (simp only [Option.bind_eq_bind, Option.bind_eq_some_iff, Option.pure_def, Option.some.injEq] at hc; obtain ⟨_, _, _, _, _, _, rfl⟩ := hc; exact h)
      | (simp only [Option.bind_eq_bind, Option.bind_eq_some_iff, Option.pure_def, Option.some.injEq] at hc; obtain ⟨_, _, _, _, _, _, _, _, rfl⟩ := hc; exact h)
  | unOp op' t x =>
    refine aop_pure hc0 hs hh ?_ hK
    cases op' <;> simp only [compOp, Option.map_eq_some_iff, reduceCtorEq] at hc
    all_goals
      obtain ⟨_, _, rfl⟩ := hc
      exact h
  | typeAssert x xt t ok =>
    refine aop_pure hc0 hs hh ?_ hK
    cases ok <;> simp only [compOp, reduceCtorEq] at hc
    repeat' (split at hc)
    all_goals first
      | (cases hc; done)
      | (simp only [Option.map_eq_some_iff] at hc; obtain ⟨_, _, rfl⟩ := hc; exact h)
  | binOp op' t x y yt =>
    refine aop_pure hc0 hs hh ?_ hK
    simp only [compOp] at hc
    repeat' (split at hc)
    all_goals first
      | (cases hc; done)
      | (simp only [Option.map_eq_some_iff] at hc; obtain ⟨_, _, rfl⟩ := hc; exact h)
      | (simp only [Option.bind_eq_bind, Option.bind_eq_some_iff, Option.pure_def, Option.some.injEq] at hc; obtain ⟨_, _, _, _, rfl⟩ := hc; exact h)
  | _ =>
    first
      | (simp only [compOp, reduceCtorEq] at hc; done)
      | (refine aop_pure hc0 hs hh ?_ hK
         simp only [compOp] at hc
         (repeat' (split at hc))
         all_goals first
          | (cases hc; done)
          | (simp only [Option.map_eq_some_iff] at hc; obtain ⟨_, _, rfl⟩ := hc; exact h)
          | (simp only [Option.bind_eq_bind, Option.bind_eq_some_iff, Option.pure_def, Option.some.injEq] at hc; obtain ⟨_, _, _, _, rfl⟩ := hc; exact h)
          | (simp only [Option.bind_eq_bind, Option.bind_eq_some_iff, Option.pure_def, Option.some.injEq] at hc; obtain ⟨_, _, _, _, _, _, rfl⟩ := hc; exact h)
          | (simp only [Option.bind_eq_bind, Option.bind_eq_some_iff, Option.pure_def, Option.some.injEq] at hc; obtain ⟨_, _, _, _, _, _, _, _, rfl⟩ := hc; exact h))
end Go.Av
