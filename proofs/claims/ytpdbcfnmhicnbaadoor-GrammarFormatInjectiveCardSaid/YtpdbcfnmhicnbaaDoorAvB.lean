/- The operations that leave the heap alone are sound: one theorem. -/
import Derived.Test.YtpdbcfnmhicnbaaDoorAvA
import Derived.Laws.IdiomStrings
set_option linter.unusedVariables false
set_option linter.unusedSimpArgs false
namespace Go.Av

theorem placesOk_at {P : Program} : ∀ (fs : List Field) (zs : List AV) (off : Nat), placesOk P off fs zs = true → fs.length = zs.length ∧
    ∀ (i : Nat) (f : Field), fs[i]? = some f → f.offset = off + AV.sizes (zs.take i) ∧ ∃ z, zs[i]? = some z ∧ szOf P f.type = some z.size
  | [], [], off, _ => ⟨rfl, fun i f hf => by simp at hf⟩
  | [], _ :: _, off, h => by simp [placesOk] at h
  | g :: fs, [], off, h => by simp [placesOk] at h
  | g :: fs, z :: zs, off, hp => by
    simp only [placesOk, Bool.and_eq_true, beq_iff_eq] at hp
    obtain ⟨h1, hs, h2⟩ := hp
    obtain ⟨hl, ih⟩ := placesOk_at fs zs (off + z.size) h2
    refine ⟨by simp [hl], fun i f hf => ?_⟩
    cases i with
    | zero =>
      simp only [List.getElem?_cons_zero, Option.some.injEq] at hf
      subst hf
      exact ⟨by simp [AV.sizes, h1], z, rfl, hs⟩
    | succ i =>
      simp only [List.getElem?_cons_succ] at hf
      obtain ⟨e1, e2⟩ := ih i f hf
      exact ⟨by rw [e1]; simp [AV.sizes]; omega, e2⟩

theorem run_index_str {P : Program} {w : World} {t : TypeId} (ht : P.underlying t = some .string) (s : List UInt8) (kd : IntKind) (n : Int) (c : UInt8) (h0 : 0 ≤ n) (h : s[n.toNat]? = some c) :
    (Instr.index t (.string ⟨s.toArray⟩) (.int kd n)).run P w = .ok (.int .u8 (c.toNat : Int)) w := by
  simp [Instr.index, asIntOf, run_underlying ht, h0, run_getElem?_bytes, h]

theorem run_indexAt_list {P : Program} {w : World} {t e : TypeId} {sz : Nat} (ht : P.underlying t = some (.slice e)) (hsz : szOf P e = some sz) (ad : Addr) (len cap : Nat) (kd : IntKind) (n : Int) (h0 : 0 ≤ n) (h1 : n < len) :
    (Instr.indexAt t (.slice (some ad) len cap) (.int kd n)).run P w = .ok (.pointer (some (ad.add (n.toNat * sz)))) w := by
  simp [Instr.indexAt, asIntOf, run_underlying ht, h0, h1, szOf_run hsz]

theorem byte_of (b : UInt8) : UInt8.ofNat ((b.toNat : Int)).toNat = b := by simp

theorem bytes_cells {c : Cx} {l : List AV} {A : Option Addr} {cap s : Nat} (h : ListAt c s l A cap) {bs : List UInt8} (hl : l = bs.map fun b => .int .u8 (b.toNat : Int)) :
    bs = [] ∨ (∃ ad, A = some ad ∧ ∀ (j : Nat) (u : Value), (bs.map fun b => Value.int .u8 (b.toNat : Int))[j]? = some u → c.w.cell? (ad.add j) = some u) := by
  rcases Nat.eq_zero_or_pos bs.length with h0 | h0
  · exact .inl (List.eq_nil_of_length_eq_zero h0)
  · refine .inr ?_
    have key : ∀ (j : Nat) (b : UInt8), bs[j]? = some b → ∃ ad, A = some ad ∧ c.w.cell? (ad.add j) = some (.int .u8 (b.toNat : Int)) := by
      intro j b hb
      have hv : l[j]? = some (.int .u8 (b.toNat : Int)) := by rw [hl]; simp [hb]
      obtain ⟨cs, hr, hsz, hc⟩ := h.elem hv
      cases hr
      simp only [List.length_cons, List.length_nil] at hsz
      obtain ⟨ad, e, hrd⟩ := hc 0 _ rfl
      refine ⟨ad, e, ?_⟩
      have := hrd.2
      rw [show j * s + 0 = j from by rw [← hsz]; omega] at this
      exact this
    obtain ⟨ad, rfl, _⟩ := key 0 (bs[0]) (by simp [h0])
    refine ⟨ad, rfl, fun j u hu => ?_⟩
    simp only [List.getElem?_map, Option.map_eq_some_iff] at hu
    obtain ⟨b, hb, rfl⟩ := hu
    obtain ⟨ad', e, hc⟩ := key j b hb
    injection e with e
    subst e
    exact hc

def placesList (P : Program) (fs : List Field) : List (Nat × Nat) := fs.map fun f => (f.offset, (szOf P f.type).getD 0)

theorem run_places {P : Program} {w : World} : ∀ (l : List Field), (∀ f ∈ l, ∃ s, szOf P f.type = some s) → (l.mapM fun f => (do pure (f.offset, ← sizeOf f.type) : Sem (Nat × Nat))).run P w = .ok (placesList P l) w
  | [], _ => rfl
  | f :: l, hl => by
    obtain ⟨s, hs⟩ := hl f (by simp)
    have ih := run_places (P := P) (w := w) l (fun g hg => hl g (by simp [hg]))
    simp only [List.mapM_cons, Sem.run_bind, szOf_run hs, Result.andThen_ok, Sem.run_pure, ih]
    simp [placesList, hs]

theorem aval_sound {P : Program} {own : Bool} {o : Oper} {op : AOp} (hc : compOp P own o = some op) {c : Cx} {n : Nat} {env : Env} {a : Act} (hs : RS c n env a) (hh : RH c) {k : AV → Prop} (h : aval c.H env op k) :
    ∃ v u, (execOp a.eval o).run P c.w = .ok (.value u) c.w ∧ RepV c v u ∧ k v := by
  obtain ⟨dst, opp, type, pos, after, guard⟩ := o
  cases opp with
  | move x =>
    simp only [compOp, Option.map_eq_some_iff] at hc
    obtain ⟨y, hy, rfl⟩ := hc
    exact ⟨_, _, rfl, compOpd_rep hy hs, h⟩
  | assign x =>
    simp only [compOp, Option.map_eq_some_iff] at hc
    obtain ⟨y, hy, rfl⟩ := hc
    exact ⟨_, _, rfl, compOpd_rep hy hs, h⟩
  | pick x y z =>
    simp only [compOp, Option.bind_eq_bind, Option.bind_eq_some_iff, Option.pure_def, Option.some.injEq] at hc
    obtain ⟨x', hx, y', hy, z', hz, rfl⟩ := hc
    simp only [aval] at h
    split at h
    · rename_i t e
      have hx' := compOpd_rep hx hs
      rw [e] at hx'
      refine ⟨_, if t then a.eval y else a.eval z, by simp [execOp, hx'.bool, asBool], ?_, h⟩
      cases t
      · exact compOpd_rep hz hs
      · exact compOpd_rep hy hs
    · exact h.elim
  | load t x =>
    simp only [compOp, Option.bind_eq_bind, Option.bind_eq_some_iff, Option.pure_def, Option.some.injEq] at hc
    obtain ⟨g, hg, sz, hsz, x', hx, rfl⟩ := hc
    have hx' := compOpd_rep hx hs
    simp only [aval] at h
    split at h
    · rename_i v e
      rw [e] at hx'
      obtain ⟨ad, cs, e1, hr, hrd⟩ := hx'.view
      obtain ⟨⟨rfl, rfl⟩, hk⟩ := h
      obtain ⟨u, hrun, hrep⟩ := run_loadAt_rep (P := P) (w := c.w) hr (fun i u hu => (hrd i u hu).2) hg hsz
      exact ⟨v, u, by simp [execOp, e1, hrun], hrep.v, hk⟩
    · rename_i b off p e
      rw [e] at hx'
      split at h
      · rename_i ct hb
        obtain ⟨v, hat, ⟨ho, rfl, rfl⟩, hk⟩ := h
        obtain ⟨cs, _, hheap, hr, hcell⟩ := hh.boxCells hb
        obtain ⟨pre, mid, post, ec, el, hm, _⟩ := path_part p hr hat
        obtain ⟨u, hrun, hrep⟩ := run_loadAt_rep (P := P) (w := c.w) (ad := ⟨b, off, none⟩) hm (fun i u hu => by
          rw [Addr.add_mid]
          refine hcell _ _ ?_
          have hi : i < mid.length := (List.getElem?_eq_some_iff.1 hu).1
          rw [ec, List.append_assoc, ← ho, ← el, List.getElem?_append_right (by omega), show pre.length + i - pre.length = i from by omega, List.getElem?_append_left hi]
          exact hu) hg hsz
        exact ⟨v, u, by simp [execOp, hx'.ptr, hrun], hrep.v, hk⟩
      · exact h.elim
    · exact h.elim
  | nilCheck x =>
    simp only [compOp, Option.map_eq_some_iff] at hc
    obtain ⟨y, hy, rfl⟩ := hc
    have hx' := compOpd_rep hy hs
    simp only [aval] at h
    split at h
    · rename_i v e
      rw [e] at hx'
      obtain ⟨ad, cs, e1, _⟩ := hx'.view
      exact ⟨_, _, by simp [execOp, e1]; rfl, by rw [e1] at hx'; exact hx', h⟩
    · rename_i b off p e
      rw [e] at hx'
      have e1 := hx'.ptr
      exact ⟨_, _, by simp [execOp, e1]; rfl, by rw [e1] at hx'; exact hx', h⟩
    · rename_i f l1 l2 e
      rw [e] at hx'
      obtain ⟨u1, u2, e1, _⟩ := hx'.fn
      exact ⟨_, _, by simp [execOp, e1]; rfl, by rw [e1] at hx'; exact hx', h⟩
    · exact h.elim
  | binOp op' t x y yt =>
    simp only [compOp] at hc
    have hbeq : ∀ (ne : Bool), P.underlying t = some .bool → op' = (if ne then .neq else .eql) → (∃ x', compOpd x = some x' ∧ ∃ y', compOpd y = some y' ∧ AOp.beq ne x' y' = op) →
        ∃ v u, (execOp a.eval ⟨dst, .binOp op' t x y yt, type, pos, after, guard⟩).run P c.w = .ok (.value u) c.w ∧ RepV c v u ∧ k v := by
      rintro ne ht hop ⟨x', hx, y', hy, rfl⟩
      simp only [aval] at h
      split at h
      · rename_i p q e1 e2
        have hx' := compOpd_rep hx hs
        have hy' := compOpd_rep hy hs
        rw [e1] at hx'
        rw [e2] at hy'
        refine ⟨_, .bool (if ne then !(p == q) else p == q), ?_, scalar_bool _ _, h⟩
        subst hop
        cases ne
        · simp [execOp, hx'.bool, hy'.bool, eqGuard_at_bool, run_eql_bool (P := P) c.w t p q ht]
        · have hn : (binOp .neq t (.bool p) (.bool q)).run P c.w = .ok (.bool (!(p == q))) c.w := by
            have := run_eql_bool (P := P) c.w t p q ht
            simp only [binOp] at this ⊢
            simp only [Sem.run_bind] at this ⊢
            revert this
            cases (Op.equal t (.bool p) (.bool q)).run P c.w with
            | ok b w' => intro this; simp at this ⊢; obtain ⟨rfl, rfl⟩ := this; exact ⟨rfl, rfl⟩
            | halt _ _ => intro this; simp at this
          simp [execOp, hx'.bool, hy'.bool, eqGuard_at_bool, hn]
      · exact h.elim
    have hifc : ∀ (ne : Bool) ms, P.underlying t = some (.interface ms) → op' = (if ne then .neq else .eql) → (∃ x', compOpd x = some x' ∧ y = .const .nilIface ∧ AOp.ieqn ne x' = op) →
        ∃ v u, (execOp a.eval ⟨dst, .binOp op' t x y yt, type, pos, after, guard⟩).run P c.w = .ok (.value u) c.w ∧ RepV c v u ∧ k v := by
      rintro ne ms ht hop ⟨x', hx, rfl, rfl⟩
      have hx' := compOpd_rep hx hs
      have hnil : a.eval (.const .nilIface) = .nilIface := rfl
      simp only [aval] at h
      split at h
      · rename_i ty v e
        rw [e] at hx'
        obtain ⟨z, e1, _⟩ := hx'.iface
        refine ⟨_, .bool ne, ?_, scalar_bool _ _, h⟩
        subst hop
        have hq : ∀ d w, (Op.equalIn (d + 1) t (.iface ty z) .nilIface).run P w = .ok false w := by
          intro d w
          simp [Op.equalIn, run_underlying ht]
        cases ne <;> simp [execOp, e1, hnil, eqGuard_at_iface, binOp, Op.equal, Op.maxDepth, hq 9999]
      · rename_i e
        rw [e] at hx'
        refine ⟨_, .bool (!ne), ?_, scalar_bool _ _, h⟩
        subst hop
        have hq : ∀ d w, (Op.equalIn (d + 1) t .nilIface .nilIface).run P w = .ok true w := by
          intro d w
          simp [Op.equalIn, run_underlying ht]
        cases ne <;> simp [execOp, hx'.nili, hnil, eqGuard_nil_constR, binOp, Op.equal, Op.maxDepth, hq 9999]
      · exact h.elim
    have hbin : ∀ x' y', compOpd x = some x' → compOpd y = some y' → AOp.bin op' x' y' = op →
        ∃ v u, (execOp a.eval ⟨dst, .binOp op' t x y yt, type, pos, after, guard⟩).run P c.w = .ok (.value u) c.w ∧ RepV c v u ∧ k v := by
      rintro x' y' hx hy rfl
      have hx' := compOpd_rep hx hs
      have hy' := compOpd_rep hy hs
      simp only [aval] at h
      split at h
      · rename_i k1 p k2 q e1 e2
        rw [e1] at hx'
        rw [e2] at hy'
        split at h
        · rename_i hop
          subst hop
          refine ⟨_, .int k1 (p.fdiv (2 ^ min q.toNat k1.bits)), ?_, scalar_int _ _ _, h.2⟩
          have hq : ¬ q < 0 := by have := h.1; omega
          simp [execOp, hx'.int, hy'.int, eqGuard_at_int, binOp_shr, Op.shift, hq]
        · rename_i hop
          obtain ⟨rfl, hb⟩ := h
          obtain ⟨v, u, hrun, hrep, hk⟩ := ibin_run (P := P) (w := c.w) t op' k1 p q c hop hb
          exact ⟨v, u, by simp [execOp, hx'.int, hy'.int, eqGuard_at_int, hrun], hrep, hk⟩
      · rename_i p q e1 e2
        rw [e1] at hx'
        rw [e2] at hy'
        obtain ⟨v, u, hrun, hrep, hk⟩ := sbin_run (P := P) (w := c.w) t op' p q c h
        exact ⟨v, u, by simp [execOp, hx'.str.1, hy'.str.1, eqGuard_at_string, hrun], hrep, hk⟩
      · exact h.elim
    split at hc
    · rename_i ht
      simp only [Option.bind_eq_bind, Option.bind_eq_some_iff, Option.pure_def, Option.some.injEq] at hc
      exact hbeq false ht rfl hc
    · rename_i ht
      simp only [Option.bind_eq_bind, Option.bind_eq_some_iff, Option.pure_def, Option.some.injEq] at hc
      exact hbeq true ht rfl hc
    · rename_i ms ht
      split at hc
      · simp only [Option.map_eq_some_iff] at hc
        obtain ⟨x', hx, e⟩ := hc
        exact hifc false ms ht rfl ⟨x', hx, rfl, e⟩
      · cases hc
    · rename_i ms ht
      split at hc
      · simp only [Option.map_eq_some_iff] at hc
        obtain ⟨x', hx, e⟩ := hc
        exact hifc true ms ht rfl ⟨x', hx, rfl, e⟩
      · cases hc
    · simp only [Option.bind_eq_bind, Option.bind_eq_some_iff, Option.pure_def, Option.some.injEq] at hc
      obtain ⟨x', hx, y', hy, e⟩ := hc
      exact hbin x' y' hx hy e
    · simp only [Option.bind_eq_bind, Option.bind_eq_some_iff, Option.pure_def, Option.some.injEq] at hc
      obtain ⟨x', hx, y', hy, e⟩ := hc
      exact hbin x' y' hx hy e
    · cases hc
  | unOp op' t x =>
    cases op' <;> simp only [compOp, Option.map_eq_some_iff, reduceCtorEq] at hc
    · obtain ⟨y, hy, rfl⟩ := hc
      have hx' := compOpd_rep hy hs
      simp only [aval] at h
      split at h
      · rename_i kd m e
        rw [e] at hx'
        exact ⟨_, .int kd (kd.wrap (0 - m)), by simp [execOp, hx'.int, Op.unary, Op.intArith], scalar_int _ _ _, h⟩
      · exact h.elim
    · obtain ⟨y, hy, rfl⟩ := hc
      have hx' := compOpd_rep hy hs
      simp only [aval] at h
      split at h
      · rename_i b e
        rw [e] at hx'
        exact ⟨_, .bool (!b), by simp [execOp, hx'.bool, Op.unary], scalar_bool _ _, h⟩
      · exact h.elim
  | convert src dst' x =>
    simp only [compOp] at hc
    split at hc
    · rename_i k1 k2 h1 h2
      simp only [Option.map_eq_some_iff] at hc
      obtain ⟨y, hy, rfl⟩ := hc
      have hx' := compOpd_rep hy hs
      simp only [aval] at h
      split at h
      · rename_i k3 m e
        rw [e] at hx'
        exact ⟨_, .int k2 (k2.wrap m), by simp [execOp, hx'.int, convert, run_underlying h1, run_underlying h2, Conv.intToInt], scalar_int _ _ _, h⟩
      · exact h.elim
    · rename_i e h1 h2
      split at hc
      · rename_i h3
        simp only [Option.map_eq_some_iff] at hc
        obtain ⟨y, hy, rfl⟩ := hc
        have hx' := compOpd_rep hy hs
        simp only [aval] at h
        split at h
        · rename_i s l el
          obtain ⟨bs, hbs, hk⟩ := h
          obtain ⟨A, cap, eu, hla⟩ := hx'.asList el
          refine ⟨.str bs, .string ⟨bs.toArray⟩, ?_, (Rep1.of_scalar (.str _ ?_) rfl rfl).v, hk⟩
          · rcases bytes_cells hla hbs with rfl | ⟨ad, rfl, hcell⟩
            · subst hbs
              have : (convert src dst' (.slice A 0 cap)).run P c.w = .ok (.string ⟨#[]⟩) c.w := by
                cases A with
                | none => simp [convert, run_underlying h1, run_underlying h2, run_underlying h3, Conv.bytesToString]; rfl
                | some ad => simp [convert, run_underlying h1, run_underlying h2, run_underlying h3, Conv.bytesToString, loadCells, loadCellsFrom]; rfl
              simp [execOp, eu, this]
            · have hrun := run_convert_bytes_back (P := P) c.w src dst' e ad cap bs h1 h3 h2 (fun j hj => hcell j _ (by simp [hj]))
              have hlen : l.length = bs.length := by rw [hbs]; simp
              simp [execOp, eu, hlen, hrun]
          · have := hla.1
            have h2 := hla.2.1
            rw [hbs] at this
            simp at this
            omega
        · exact h.elim
      · cases hc
    · rename_i k1 h1 h2
      simp only [Option.map_eq_some_iff] at hc
      obtain ⟨y, hy, rfl⟩ := hc
      have hx' := compOpd_rep hy hs
      simp only [aval] at h
      split at h
      · rename_i k3 m e
        rw [e] at hx'
        refine ⟨_, .string (Utf8.encode m), by simp [execOp, hx'.int, convert, run_underlying h1, run_underlying h2, Conv.intToString], ?_, h⟩
        have hl : (Utf8.encode m).data.toList.length ≤ maxLen := by
          unfold Utf8.encode
          simp only
          repeat' split
          all_goals simp [maxLen]
        have hr := RepC.str (c := c) (Utf8.encode m).data.toList hl
        have e : (Value.string (Utf8.encode m)).cells.toList = [.string ⟨(Utf8.encode m).data.toList.toArray⟩] := by simp [Value.cells]
        exact Rep1.v ⟨by rw [e]; exact hr, rfl⟩
      · exact h.elim
    · rename_i e h1 h2
      split at hc
      · simp only [Option.map_eq_some_iff] at hc
        obtain ⟨y, hy, rfl⟩ := hc
        simp only [aval] at h
      · cases hc
    · cases hc
  | makeMap t r =>
    cases r <;> simp only [compOp, reduceCtorEq] at hc
    split at hc
    · injection hc with hc
      subst hc
      simp only [aval] at h
    · cases hc
  | lookup t x y ok =>
    cases ok <;> simp only [compOp, reduceCtorEq] at hc
    split at hc
    · simp only [Option.bind_eq_bind, Option.bind_eq_some_iff, Option.pure_def, Option.some.injEq] at hc
      obtain ⟨_, _, _, _, rfl⟩ := hc
      simp only [aval] at h
    · cases hc
  | mapUpdate t m y x =>
    simp only [compOp] at hc
    split at hc
    · simp only [Option.bind_eq_bind, Option.bind_eq_some_iff, Option.pure_def, Option.some.injEq] at hc
      obtain ⟨_, _, _, _, _, _, rfl⟩ := hc
      simp only [aval] at h
    · cases hc
  | makeInterface t x =>
    simp only [compOp] at hc
    split at hc
    · cases hc
    · rename_i d hd hni
      simp only [Option.map_eq_some_iff] at hc
      obtain ⟨y, hy, rfl⟩ := hc
      have hx' := compOpd_rep hy hs
      simp only [aval] at h
      refine ⟨_, .iface t (a.eval x), ?_, (Rep1.of_scalar (.iface (hx'.one h.1).1 (hx'.one h.1).2) rfl rfl).v, h.2⟩
      have : (Instr.makeInterface t (a.eval x)).run P c.w = .ok (.iface t (a.eval x)) c.w := by
        unfold Instr.makeInterface
        rw [Sem.run_bind, run_underlying hni c.w]
        cases d <;> first | rfl | (exact absurd rfl (hd _))
      simp [execOp, this]
    · cases hc
  | makeFunc f first cap =>
    simp only [compOp, Option.bind_eq_bind, Option.bind_eq_some_iff, Option.pure_def, Option.some.injEq] at hc
    obtain ⟨l1, h1, l2, h2, rfl⟩ := hc
    simp only [aval] at h
    obtain ⟨hsto, hk⟩ := h
    obtain ⟨e1, r1⟩ := compOpds_rep h1 hs
    obtain ⟨e2, r2⟩ := compOpds_rep h2 hs
    refine ⟨_, .func f (first.map a.eval) (cap.map a.eval), by simp [execOp, Instr.makeFunc], ?_, hk⟩
    have g1 : ∀ (j : Nat) (v : AV) (u : Value), (l1.map (Opd.ev env))[j]? = some v → (first.toList.map a.eval)[j]? = some u → Rep1 c v u := fun j v u hv hu => by
      refine (r1 j v u hv hu).one ?_
      simp only [List.getElem?_map, Option.map_eq_some_iff] at hv
      obtain ⟨x, hx, rfl⟩ := hv
      exact hsto x (List.mem_append_left _ (List.mem_of_getElem? hx))
    have g2 : ∀ (j : Nat) (v : AV) (u : Value), (l2.map (Opd.ev env))[j]? = some v → (cap.toList.map a.eval)[j]? = some u → Rep1 c v u := fun j v u hv hu => by
      refine (r2 j v u hv hu).one ?_
      simp only [List.getElem?_map, Option.map_eq_some_iff] at hv
      obtain ⟨x, hx, rfl⟩ := hv
      exact hsto x (List.mem_append_right _ (List.mem_of_getElem? hx))
    have := RepC.fn (c := c) (f := f) (l1 := l1.map (Opd.ev env)) (l2 := l2.map (Opd.ev env)) (u1 := first.toList.map a.eval) (u2 := cap.toList.map a.eval) (by simpa using e1) (by simpa using e2)
      (fun j v u hv hu => (g1 j v u hv hu).1) (fun j v u hv hu => (g1 j v u hv hu).2) (fun j v u hv hu => (g2 j v u hv hu).1) (fun j v u hv hu => (g2 j v u hv hu).2)
    refine (Rep1.of_scalar (u := .func f (first.map a.eval) (cap.map a.eval)) ?_ rfl rfl).v
    have z1 : (first.toList.map a.eval).toArray = first.map a.eval := by rw [← Array.toList_map]
    have z2 : (cap.toList.map a.eval).toArray = cap.map a.eval := by rw [← Array.toList_map]
    rw [z1, z2] at this
    exact this
  | slice t x lo hi mx =>
    cases mx with
    | some _ => simp only [compOp, reduceCtorEq] at hc
    | none =>
      simp only [compOp] at hc
      split at hc
      · rename_i ht
        simp only [Option.bind_eq_bind, Option.bind_eq_some_iff, Option.pure_def, Option.some.injEq] at hc
        obtain ⟨x', hx, lo', hlo, hi', hhi, rfl⟩ := hc
        have hx' := compOpd_rep hx hs
        simp only [aval] at h
        split at h
        · rename_i s e
          rw [e] at hx'
          obtain ⟨eu, hsl⟩ := hx'.str
          obtain ⟨p, q, hpq, hq, hrun, hk⟩ := lohi_run (P := P) (len := s.length) (cap := s.length) hs hlo hhi (Nat.le_refl _) false h c.w
          refine ⟨.str ((s.take q).drop p), .string ⟨((s.take q).drop p).toArray⟩, ?_, (Rep1.of_scalar (.str _ (by simp; omega)) rfl rfl).v, hk⟩
          have : (Instr.slice t (.string ⟨s.toArray⟩) (lo.map a.eval) (hi.map a.eval) none).run P c.w = .ok (.string ⟨((s.take q).drop p).toArray⟩) c.w := by
            simp only [Instr.slice, Sem.run_bind, run_underlying ht, Result.andThen_ok, size_mk, Option.isSome_none, Bool.false_eq_true, if_false]
            simp [hrun, extract_mk s p q hpq hq]
          simp [execOp, Instr.sliceAt, run_underlying ht, eu, this]
        · exact h.elim
      · rename_i e ht
        simp only [Option.bind_eq_bind, Option.bind_eq_some_iff, Option.pure_def, Option.some.injEq] at hc
        obtain ⟨sz, hsz, x', hx, lo', hlo, hi', hhi, rfl⟩ := hc
        have hx' := compOpd_rep hx hs
        simp only [aval] at h
        split at h
        · rename_i s l el
          obtain ⟨hs2, h⟩ := h
          obtain ⟨A, cap, eu, hla⟩ := hx'.asList el
          obtain ⟨p, q, hpq, hq, hrun, hk⟩ := lohi_run (P := P) (len := l.length) (cap := cap) hs hlo hhi hla.1 true h c.w
          have hcap := hla.1
          have hmax := hla.2.1
          have hl2 : ListAt c sz l A cap := by
            rcases hs2 with rfl | rfl
            · exact ListAt.nil c sz A cap hmax
            · exact hla
          have hrep := hl2.extract (m := cap - p) hpq hq (by omega) (by omega) (if cap = p then A else A.map (·.add (p * sz))) (fun hlt => by rw [if_neg (by omega)])
          have hlen : ((l.take q).drop p).length = q - p := by simp; omega
          refine ⟨.list sz ((l.take q).drop p), .slice (if cap = p then A else A.map (·.add (p * sz))) (q - p) (cap - p), ?_, ?_, hk⟩
          · have : (Instr.slice t (.slice A l.length cap) (lo.map a.eval) (hi.map a.eval) none).run P c.w = .ok (.slice (if cap = p then A else A.map (·.add (p * sz))) (q - p) (cap - p)) c.w := by
              simp only [Instr.slice, Sem.run_bind, run_underlying ht, Result.andThen_ok, hrun, szOf_run hsz]
              rfl
            simp [execOp, Instr.sliceAt, run_underlying ht, eu, this]
          · have := hrep.repV
            rw [hlen] at this
            exact this
        · exact h.elim
      · cases hc
  | fieldAddr s x i =>
    simp only [compOp] at hc
    split at hc
    · rename_i fs hst
      split at hc
      · rename_i f hf
        split at hc
        · rename_i m hsz
          simp only [Option.map_eq_some_iff] at hc
          obtain ⟨y, hy, rfl⟩ := hc
          have hx' := compOpd_rep hy hs
          have hrun : ∀ ad : Addr, (Instr.fieldAt s (.pointer (some ad)) i).run P c.w = .ok (.pointer (some (ad.add f.offset))) c.w := by
            intro ad
            simp [Instr.fieldAt, Instr.sureAddr, run_underlying hst, hf, fieldPlace, szOf_run hsz]
          simp only [aval] at h
          split at h
          · rename_i b off p e
            rw [e] at hx'
            refine ⟨.ptr b (off + f.offset) (p ++ [i]), .pointer (some ⟨b, off + f.offset, none⟩), ?_, (Rep1.of_scalar (.ptr _ _ _) rfl rfl).v, h⟩
            simp [execOp, hx'.ptr, hrun, Addr.add_mid]
          · rename_i zs e
            rw [e] at hx'
            obtain ⟨ad, cs, eu, hr, hrd⟩ := hx'.view
            obtain ⟨v, hv, ho, hk⟩ := h
            obtain ⟨pre, mid, post, ec, el, hm, _⟩ := field_part hr hv
            refine ⟨.view v, .pointer (some (ad.add f.offset)), by simp [execOp, eu, hrun], (Rep1.of_scalar (.view hm fun j u hu => ?_) rfl rfl).v, hk⟩
            rw [add_add']
            refine hrd _ _ ?_
            have hj : j < mid.length := (List.getElem?_eq_some_iff.1 hu).1
            rw [ec, List.append_assoc, ← ho, ← el, List.getElem?_append_right (by omega), show pre.length + j - pre.length = j from by omega, List.getElem?_append_left hj]
            exact hu
          · exact h.elim
        · cases hc
      · cases hc
    · cases hc
  | field s x i =>
    simp only [compOp] at hc
    split at hc
    · rename_i fs hst
      split at hc
      · rename_i f hf
        simp only [Option.bind_eq_bind, Option.bind_eq_some_iff, Option.pure_def, Option.some.injEq] at hc
        obtain ⟨sz, hsz, g, hg, y, hy, rfl⟩ := hc
        have hx' := compOpd_rep hy hs
        simp only [aval] at h
        split at h
        · rename_i zs e
          rw [e] at hx'
          obtain ⟨v, hv, ⟨ho, hsize, hag⟩, hk⟩ := h
          obtain ⟨cs, eu, hr⟩ := (hx'.one rfl).agg
          obtain ⟨pre, mid, post, ec, el, hm, _⟩ := field_part hr hv
          have hml : mid.length = sz := by rw [hm.length, hsize]
          cases hb : g with
          | true =>
            subst hb
            refine ⟨v, .agg (cs.extract f.offset (f.offset + sz)), ?_, ?_, hk⟩
            · simp [execOp, eu, Instr.field, run_underlying hst, hf, asAgg, part, aggOf_run hg, szOf_run hsz]
            · refine Rep1.v ⟨?_, by rw [hag]; rfl⟩
              have : (Value.agg (cs.extract f.offset (f.offset + sz))).cells.toList = mid := by
                show (cs.extract f.offset (f.offset + sz)).toList = mid
                rw [Array.toList_extract, ec, List.append_assoc, ← ho, ← el]
                rw [List.extract_eq_take_drop, List.drop_left, ← hml, show pre.length + mid.length - pre.length = mid.length from by omega, List.take_left]
              rw [this]
              exact hm
          | false =>
            subst hb
            obtain ⟨u, rfl, hu⟩ := hm.single hag
            have hcell : cs[f.offset]? = some u := by
              rw [← Array.getElem?_toList, ec, List.append_assoc, ← ho, ← el, List.getElem?_append_right (by omega)]
              simp
            refine ⟨v, u, ?_, (Rep1.of_scalar hm hag hu).v, hk⟩
            simp [execOp, eu, Instr.field, run_underlying hst, hf, asAgg, part, aggOf_run hg, hcell]
        · exact h.elim
      · cases hc
    · cases hc
  | indexAddr t x i =>
    simp only [compOp] at hc
    split at hc
    · rename_i e ht
      split at hc
      rotate_left
      · cases hc
      rename_i sz hsz
      simp only [Option.bind_eq_bind, Option.bind_eq_some_iff, Option.pure_def, Option.some.injEq] at hc
      obtain ⟨x', hx, i', hi, rfl⟩ := hc
      have hx' := compOpd_rep hx hs
      have hi' := compOpd_rep hi hs
      simp only [aval] at h
      split at h
      · rename_i s l m el em
        obtain ⟨⟨h0, rfl⟩, v, hv, hk⟩ := h
        obtain ⟨A, cap, eu, hla⟩ := hx'.asList el
        obtain ⟨kd, ekd⟩ := hi'.unasInt em
        obtain ⟨cs, hr, hcl, hcell⟩ := hla.elem hv
        have hlt : m.toNat < l.length := (List.getElem?_eq_some_iff.1 hv).1
        have hne : ∃ ad, A = some ad := by
          rcases A with _ | ad
          · exfalso
            cases cs with
            | nil => simp at hcl
            | cons u cs =>
              obtain ⟨ad, e, _⟩ := hcell 0 u rfl
              cases e
          · exact ⟨ad, rfl⟩
        obtain ⟨ad, rfl⟩ := hne
        refine ⟨.view v, .pointer (some (ad.add (m.toNat * (sz + 1)))), ?_, (Rep1.of_scalar (.view hr fun j u hu => ?_) rfl rfl).v, hk⟩
        · have := run_indexAt_list (P := P) (w := c.w) ht hsz ad l.length cap kd m h0 (by omega)
          simp [execOp, eu, ekd, this]
        · obtain ⟨ad', e, hrd⟩ := hcell j u hu
          injection e with e
          subst e
          rw [add_add']
          exact hrd
      · exact h.elim
    · cases hc
  | index t x i =>
    simp only [compOp] at hc
    split at hc
    · rename_i ht
      simp only [Option.bind_eq_bind, Option.bind_eq_some_iff, Option.pure_def, Option.some.injEq] at hc
      obtain ⟨x', hx, i', hi, rfl⟩ := hc
      have hx' := compOpd_rep hx hs
      have hi' := compOpd_rep hi hs
      simp only [aval] at h
      split at h
      · rename_i s m e em
        rw [e] at hx'
        obtain ⟨h0, ch, hch, hk⟩ := h
        obtain ⟨kd, ekd⟩ := hi'.unasInt em
        refine ⟨_, .int .u8 (ch.toNat : Int), ?_, scalar_int _ _ _, hk⟩
        simp [execOp, hx'.str.1, ekd, run_index_str ht s kd m ch h0 hch]
      · exact h.elim
    · cases hc
  | typeAssert x xt t ok =>
    cases ok with
    | true => simp only [compOp, reduceCtorEq] at hc
    | false =>
      simp only [compOp] at hc
      split at hc
      · cases hc
      · rename_i d hni hd
        simp only [Option.map_eq_some_iff] at hc
        obtain ⟨y, hy, rfl⟩ := hc
        have hx' := compOpd_rep hy hs
        simp only [aval] at h
        split at h
        · rename_i t' v e
          rw [e] at hx'
          obtain ⟨z, eu, hz⟩ := hx'.iface
          obtain ⟨rfl, hk⟩ := h
          refine ⟨v, z, ?_, hz.v, hk⟩
          have : (Instr.typeAssert (.iface t' z) xt t' false).run P c.w = .ok z c.w := by
            unfold Instr.typeAssert
            simp only [Sem.run_bind, run_underlying hd c.w, Result.andThen_ok]
            cases d <;> first | (exact absurd rfl (hni _)) | simp
          simp [execOp, eu, this]
        · exact h.elim
      · cases hc
  | extract x i =>
    simp only [compOp, Option.map_eq_some_iff] at hc
    obtain ⟨y, hy, rfl⟩ := hc
    have hx' := compOpd_rep hy hs
    simp only [aval] at h
    split at h
    · rename_i vs e
      rw [e] at hx'
      obtain ⟨us, eu, hl, hr⟩ := hx'.tuple
      obtain ⟨v, hv, hk⟩ := h
      have hi : i < us.length := by rw [hl]; exact (List.getElem?_eq_some_iff.1 hv).1
      refine ⟨v, us[i], ?_, (hr i v _ hv (List.getElem?_eq_getElem hi)).v, hk⟩
      simp [execOp, eu, Instr.extract, hi]
    · exact h.elim
  | build t ps =>
    simp only [compOp] at hc
    split at hc
    · rename_i fs zs hst hz
      split at hc
      · rename_i hok
        simp only [Option.map_eq_some_iff] at hc
        obtain ⟨ps', hp, rfl⟩ := hc
        simp only [aval] at h
        obtain ⟨hparts, hk⟩ := h
        obtain ⟨_, inf, z, hi1, hi2, hrz⟩ := zeroAV_rep hz
        obtain ⟨zc, rfl, hrz1⟩ := (hrz c).agg
        obtain ⟨el, er⟩ := compParts_rep hp hs
        obtain ⟨hlz, hplaces⟩ := placesOk_at fs.toList zs 0 hok
        obtain ⟨out, ho1, ho2⟩ := fill_rep (fun j => (placesList P fs.toList)[j]?) (ps'.map fun p => (p.1, p.2.ev env)) (ps.toList.map fun p => (p.1, a.eval p.2)) zs zc c hrz1 (by simpa using el) er
          (fun j hj => by
            have hjf : j < fs.toList.length := by omega
            obtain ⟨e1, z', hz', hsz'⟩ := hplaces j _ (List.getElem?_eq_getElem hjf)
            simp only [placesList, List.getElem?_map, List.getElem?_eq_getElem hjf, Option.map_some]
            rw [e1, hsz']
            simp [List.getD_eq_getElem?_getD, hz']) hparts
        refine ⟨_, .agg out, ?_, Rep1.v ⟨ho2, rfl⟩, hk⟩
        have hmap : (fs.mapM fun f => (do pure (f.offset, ← sizeOf f.type) : Sem (Nat × Nat))).run P c.w = .ok (placesList P fs.toList).toArray c.w := by
          rw [show fs = fs.toList.toArray from by simp]
          simp only [List.mapM_toArray]
          have h2 := run_places (P := P) (w := c.w) fs.toList (fun f hf => by
            obtain ⟨j, hj⟩ := List.getElem?_of_mem hf
            obtain ⟨_, z', _, hs'⟩ := hplaces j f hj
            exact ⟨_, hs'⟩)
          rw [Sem.run_map, h2]
          rfl
        have hps : (ps.map fun (p : Nat × Operand) => (p.1, a.eval p.2)).toList = ps.toList.map fun p => (p.1, a.eval p.2) := by simp
        have : (Instr.build t (ps.map fun (p : Nat × Operand) => (p.1, a.eval p.2))).run P c.w = .ok (.agg out) c.w := by
          unfold Instr.build
          simp only [Sem.run_bind, zeroValue, typeInfo, run_program, Result.andThen_ok, hi1, Sem.run_pure, hi2, run_underlying hst, hmap, hps, Value.cells]
          simp only [List.getElem?_toArray, ho1]
          rfl
        simp [execOp, this]
      · cases hc
    · cases hc
  | call cl =>
    obtain ⟨callee, args, tys⟩ := cl
    simp only [compOp] at hc
    split at hc
    · simp only [Option.bind_eq_bind, Option.bind_eq_some_iff, Option.pure_def, Option.some.injEq] at hc
      obtain ⟨_, _, _, _, rfl⟩ := hc
      exact h.elim
    · split at hc
      · rename_i t x e1 e2
        have g1 : tys = #[t] := by rw [show tys = tys.toList.toArray from by simp, e1]
        have g2 : args = #[x] := by rw [show args = args.toList.toArray from by simp, e2]
        subst g1 g2
        split at hc
        · rename_i ht
          simp only [Option.map_eq_some_iff] at hc
          obtain ⟨y, hy, rfl⟩ := hc
          have hx' := compOpd_rep hy hs
          simp only [aval] at h
          split at h
          · rename_i s e
            rw [e] at hx'
            obtain ⟨eu, hl⟩ := hx'.str
            refine ⟨_, .int .i64 (s.length : Int), ?_, scalar_int _ _ _, h hl⟩
            simp [execOp, resolve, invoke, builtin, eu, Builtin.len_, run_underlying ht, size_mk, goInt]
          · exact h.elim
        · rename_i e ht
          simp only [Option.map_eq_some_iff] at hc
          obtain ⟨y, hy, rfl⟩ := hc
          have hx' := compOpd_rep hy hs
          simp only [aval] at h
          split at h
          · rename_i s l el
            obtain ⟨A, cap, eu, hla⟩ := hx'.asList el
            refine ⟨_, .int .i64 (l.length : Int), ?_, scalar_int _ _ _, h (Nat.le_trans hla.1 hla.2.1)⟩
            simp [execOp, resolve, invoke, builtin, eu, Builtin.len_, run_underlying ht, goInt]
          · exact h.elim
        · cases hc
      · cases hc
    · split at hc
      · rename_i x y e2
        have g2 : args = #[x, y] := by rw [show args = args.toList.toArray from by simp, e2]
        subst g2
        simp only [Option.bind_eq_bind, Option.bind_eq_some_iff, Option.pure_def, Option.some.injEq] at hc
        obtain ⟨x', hx, y', hy, rfl⟩ := hc
        have hx' := compOpd_rep hx hs
        have hy' := compOpd_rep hy hs
        simp only [aval] at h
        split at h
        · rename_i k1 p k2 q e1 e2
          rw [e1] at hx'
          rw [e2] at hy'
          obtain ⟨rfl, hk⟩ := h
          refine ⟨_, .int k1 (if q < p then q else p), ?_, scalar_int _ _ _, hk⟩
          simp [execOp, resolve, invoke, builtin, hx'.int, hy'.int, Builtin.min_, Builtin.min2]
        · exact h.elim
      · cases hc
    · split at hc
      · rename_i x y e2
        have g2 : args = #[x, y] := by rw [show args = args.toList.toArray from by simp, e2]
        subst g2
        simp only [Option.bind_eq_bind, Option.bind_eq_some_iff, Option.pure_def, Option.some.injEq] at hc
        obtain ⟨x', hx, y', hy, rfl⟩ := hc
        have hx' := compOpd_rep hx hs
        have hy' := compOpd_rep hy hs
        simp only [aval] at h
        split at h
        · rename_i k1 p k2 q e1 e2
          rw [e1] at hx'
          rw [e2] at hy'
          obtain ⟨rfl, hk⟩ := h
          refine ⟨_, .int k1 (if p < q then q else p), ?_, scalar_int _ _ _, hk⟩
          simp [execOp, resolve, invoke, builtin, hx'.int, hy'.int, Builtin.max_, Builtin.max2]
        · exact h.elim
      · cases hc
    · split at hc
      · split at hc
        · split at hc
          · split at hc
            · split at hc
              · split at hc
                · simp only [Option.bind_eq_bind, Option.bind_eq_some_iff, Option.pure_def, Option.some.injEq] at hc
                  obtain ⟨_, _, _, _, rfl⟩ := hc
                  exact h.elim
                · cases hc
              · cases hc
            · cases hc
          · cases hc
        · cases hc
      · cases hc
    · cases hc
  | alloc e =>
    simp only [compOp] at hc
    split at hc
    · simp only [compBld] at hc
      split at hc
      · split at hc
        · injection hc with hc; subst hc; exact h.elim
        · cases hc
      · cases hc
    · simp only [Option.map_eq_some_iff] at hc; obtain ⟨y, _, rfl⟩ := hc; exact h.elim
  | box e x => simp only [compOp, Option.bind_eq_bind, Option.bind_eq_some_iff, Option.pure_def, Option.some.injEq] at hc; obtain ⟨_, _, _, _, rfl⟩ := hc; exact h.elim
  | store t x y => simp only [compOp, Option.bind_eq_bind, Option.bind_eq_some_iff, Option.pure_def, Option.some.injEq] at hc; obtain ⟨_, _, _, _, _, _, rfl⟩ := hc; exact h.elim
  | panic x => simp only [compOp, Option.map_eq_some_iff] at hc; obtain ⟨y, _, rfl⟩ := hc; exact h.elim
  | buildSlice t m ps =>
    simp only [compOp] at hc
    split at hc
    · split at hc
      · split at hc
        · simp only [Option.map_eq_some_iff] at hc; obtain ⟨y, _, rfl⟩ := hc; exact h.elim
        · cases hc
      · cases hc
    · cases hc
  | _ => simp only [compOp, reduceCtorEq] at hc
end Go.Av

namespace Go.Av

theorem AHeap.set_same (H : AHeap) (b : Nat) (o : AObj) : (H.set b o) b = some o := by simp [AHeap.set]
theorem AHeap.set_ne (H : AHeap) {b x : Nat} (o : AObj) (h : x ≠ b) : (H.set b o) x = H x := by simp [AHeap.set, h]

theorem cell?_push {w w' : World} {o : Obj} (hw : w'.heap = w.heap.push o) {a : Addr} {u : Value} (h : w.cell? a = some u) : w'.cell? a = some u := by
  have hlt := World.block_lt_of_cell? w a h
  unfold World.cell? at h ⊢
  rw [hw, Array.getElem?_push_lt hlt]
  rw [Array.getElem?_eq_getElem hlt] at h
  exact h

theorem heap_push_old {w w' : World} {o : Obj} (hw : w'.heap = w.heap.push o) {b : Nat} (h : b < w.heap.size) : w'.heap[b]? = w.heap[b]? := by
  rw [hw, Array.getElem?_push_lt h, Array.getElem?_eq_getElem h]

theorem heap_push_new {w w' : World} {o : Obj} (hw : w'.heap = w.heap.push o) : w'.heap[w.heap.size]? = some o := by
  rw [hw, Array.getElem?_push_size]

/-- A new block. 'L': how much of it may be read; H': the old heap, or with the new block's object. -/
theorem Cx.Le.push {c d : Cx} {o : Obj} (hh : RH c) (hb : d.base = c.base) (hw : d.w.heap = c.w.heap.push o) (h1 : d.w.os = c.w.os) (h2 : d.w.tape = c.w.tape) (h3 : d.w.output = c.w.output)
    (hl : ∀ b, b < c.w.heap.size → c.lim b ≤ d.lim b) (hH : ∀ b n s e, b < c.w.heap.size → d.H b = some (.row n s e) → c.H b = some (.row n s e)) (hds : d.ds = c.ds := by rfl) : c.Le d where
  ds := hds
  base := hb
  size := by rw [hw]; simp
  rd := fun a u hr => by
    have hlt := World.block_lt_of_cell? c.w a hr.2
    exact ⟨hr.1.imp (fun h => by rw [hb]; exact h) (fun h => Nat.lt_of_lt_of_le h (hl _ hlt)), cell?_push hw hr.2⟩
  old := fun b hlt => heap_push_old hw (Nat.lt_of_lt_of_le hlt hh.base)
  os := h1
  tape := h2
  output := h3
  row := fun b n s e hlt hr => .inl ⟨hH b n s e hlt hr, heap_push_old hw hlt⟩

/-- The heap of objects, when one block is new and bears no object. -/
theorem RH.push_plain {c d : Cx} {o : Obj} (hh : RH c) (hle : c.Le d) (hb : d.base = c.base) (hw : d.w.heap = c.w.heap.push o) (hl : ∀ b, b ≠ c.w.heap.size → d.lim b = c.lim b) (hH : d.H = c.H) : RH d where
  base := by rw [hb, hw]; simp; exact Nat.le_succ_of_le hh.base
  new := fun b hlt => by
    have hs : d.w.heap.size = c.w.heap.size + 1 := by rw [hw]; simp
    rw [hl b (by omega)]
    exact hh.new b (by omega)
  lt := fun b o hb' => Nat.lt_of_lt_of_le (hh.lt b o (by rw [hH] at hb'; exact hb')) hle.size
  ge := fun b o hb' ho => by rw [hb]; exact hh.ge b o (by rw [hH] at hb'; exact hb') ho
  x := hh.x.keep hb hle.size (fun x hx _ => ⟨heap_push_old hw hx, hl x (by omega)⟩) (fun x o _ hx => by rw [hH] at hx; exact hx) (fun x _ hn => by rw [hH]; exact hn)
  box := fun b v hb' => by
    rw [hH] at hb'
    have hlt := hh.lt b _ hb'
    obtain ⟨p, cs, e, q1, q2⟩ := hh.box b v hb'
    exact ⟨by rw [hl b (by omega)]; exact p, cs, e, by rw [heap_push_old hw hlt]; exact q1, q2.mono hle⟩
  row := fun b n s e hb' => by
    rw [hH] at hb'
    have hlt := hh.lt b _ hb'
    obtain ⟨p, cs, q1, q2⟩ := hh.row b n s e hb'
    exact ⟨by rw [hl b (by omega)]; exact p, cs, by rw [heap_push_old hw hlt]; exact q1, q2⟩

/-- The same, the new block bearing a variable. -/
theorem RH.push_box {c d : Cx} {cs : Array Value} {e : TypeId} {v : AV} (hh : RH c) (hle : c.Le d) (hb : d.base = c.base) (hw : d.w.heap = c.w.heap.push (.cells cs e (0, 0))) (hl : d.lim = c.lim)
    (hH : d.H = c.H.set c.w.heap.size (.box v)) (hv : RepC c v cs.toList) : RH d where
  base := by rw [hb, hw]; simp; exact Nat.le_succ_of_le hh.base
  new := fun b hlt => by
    have hs : d.w.heap.size = c.w.heap.size + 1 := by rw [hw]; simp
    rw [hl]
    exact hh.new b (by omega)
  lt := fun b o hb' => by
    have hs : d.w.heap.size = c.w.heap.size + 1 := by rw [hw]; simp
    by_cases hbs : b = c.w.heap.size
    · omega
    · rw [hH, AHeap.set_ne _ _ hbs] at hb'
      have := hh.lt b o hb'
      omega
  ge := fun b o hb' ho => by
    have hbase := hh.base
    by_cases hbs : b = c.w.heap.size
    · omega
    · rw [hH, AHeap.set_ne _ _ hbs] at hb'
      have := hh.ge b o hb' ho
      omega
  x := hh.x.keep hb hle.size (fun x hx _ => ⟨heap_push_old hw hx, by rw [hl]⟩) (fun x o ho hx => by
      by_cases hbs : x = c.w.heap.size
      · subst hbs
        rw [hH, AHeap.set_same] at hx
        injection hx with hx
        subst hx
        cases ho
      · rw [hH, AHeap.set_ne _ _ hbs] at hx
        exact hx) (fun x hx hn => by rw [hH, AHeap.set_ne _ _ (by omega)]; exact hn)
  box := fun b x hb' => by
    by_cases hbs : b = c.w.heap.size
    · subst hbs
      rw [hH, AHeap.set_same] at hb'
      injection hb' with hb'
      injection hb' with hb'
      subst hb'
      exact ⟨by rw [hl]; exact hh.new _ (Nat.le_refl _), cs, e, heap_push_new hw, hv.mono hle⟩
    · rw [hH, AHeap.set_ne _ _ hbs] at hb'
      have hlt := hh.lt b _ hb'
      obtain ⟨p, cs', e', q1, q2⟩ := hh.box b x hb'
      exact ⟨by rw [hl]; exact p, cs', e', by rw [heap_push_old hw hlt]; exact q1, q2.mono hle⟩
  row := fun b n s e hb' => by
    by_cases hbs : b = c.w.heap.size
    · subst hbs
      rw [hH, AHeap.set_same] at hb'
      injection hb' with hb'
      cases hb'
    · rw [hH, AHeap.set_ne _ _ hbs] at hb'
      have hlt := hh.lt b _ hb'
      obtain ⟨p, cs', q1, q2⟩ := hh.row b n s e hb'
      exact ⟨by rw [hl]; exact p, cs', by rw [heap_push_old hw hlt]; exact q1, q2⟩

/-- The same, the new block bearing a text of which nothing is built yet. -/
theorem RH.push_bld {c d : Cx} {T e : TypeId} (hh : RH c) (hle : c.Le d) (hb : d.base = c.base) (hw : d.w.heap = c.w.heap.push (.cells #[.pointer none, .slice none 0 0] T (0, 0))) (hl : d.lim = c.lim)
    (hH : d.H = c.H.set c.w.heap.size (.bld [] T e)) : RH d := by
  have hs : d.w.heap.size = c.w.heap.size + 1 := by rw [hw]; simp
  have hbase := hh.base
  have hnew := heap_push_new hw
  have back : ∀ x o, x ≠ c.w.heap.size → d.H x = some o → c.H x = some o := fun x o hx h => by rw [hH, AHeap.set_ne _ _ hx] at h; exact h
  have hr0 : rowOf d.w c.w.heap.size = none := by simp [rowOf, hnew]
  -- all but the new block as before
  have hx0 : ∀ b s T' e', b ≠ c.w.heap.size → d.H b = some (.bld s T' e') → c.H b = some (.bld s T' e') ∧ d.w.heap[b]? = c.w.heap[b]? := fun b s T' e' hne h => by
    have h1 := back b _ hne h
    exact ⟨h1, heap_push_old hw (hh.lt b _ h1)⟩
  refine ⟨by rw [hb, hs]; omega, fun b hlt => by rw [hl]; exact hh.new b (by omega), fun b o h => ?_, fun b o h ho => ?_, ⟨fun b o h ho => ?_, fun b s T' e' h => ?_, fun b b' s T1 e1 s' T2 e2 h1 h2 hne g hg => ?_, fun b cs h => ?_, fun b l h => ?_⟩, fun b v h => ?_, fun b n s e' h => ?_⟩
  · by_cases hbs : b = c.w.heap.size
    · omega
    · have := hh.lt b o (back b o hbs h); omega
  · by_cases hbs : b = c.w.heap.size
    · omega
    · have := hh.ge b o (back b o hbs h) ho; omega
  · by_cases hbs : b = c.w.heap.size
    · exact ⟨by omega, fun _ => ⟨by omega, by rw [hl]; exact hh.new b (by omega)⟩⟩
    · obtain ⟨p, q⟩ := hh.x.lt b o (back b o hbs h) ho
      exact ⟨by omega, fun h2 => ⟨by rw [hb]; exact (q h2).1, by rw [hl]; exact (q h2).2⟩⟩
  · by_cases hbs : b = c.w.heap.size
    · subst hbs
      rw [hH, AHeap.set_same] at h
      injection h with h
      injection h with g1 g2 g3
      subst g1 g2 g3
      exact ⟨_, _, hnew, .inl rfl, .inl ⟨rfl, rfl⟩⟩
    · obtain ⟨h1, h2⟩ := hx0 b s T' e' hbs h
      obtain ⟨p, v, e1, e2, e3⟩ := hh.x.bld b s T' e' h1
      refine ⟨p, v, by rw [h2]; exact e1, e2, ?_⟩
      rcases e3 with e3 | ⟨g, cap, cur, f1, ⟨f2, f3, f4, f5⟩, f6, f7, f8⟩
      · exact .inl e3
      · have hg : g < c.w.heap.size := by
          rcases Nat.lt_or_ge g c.w.heap.size with h' | h'
          · exact h'
          · rw [Array.getElem?_eq_none h'] at f6; cases f6
        exact .inr ⟨g, cap, cur, f1, ⟨by omega, f3, by rw [hH, AHeap.set_ne _ _ (by omega)]; exact f4, by rw [hl]; exact f5⟩, by rw [heap_push_old hw hg]; exact f6, f7, f8⟩
  · by_cases hbs : b = c.w.heap.size
    · subst hbs
      rw [hr0] at hg
      cases hg
    · by_cases hbs' : b' = c.w.heap.size
      · subst hbs'
        rw [hr0]
        simp
      · obtain ⟨k1, r1⟩ := hx0 b _ _ _ hbs h1
        obtain ⟨k2, r2⟩ := hx0 b' _ _ _ hbs' h2
        have q1 : rowOf d.w b = rowOf c.w b := by simp only [rowOf, r1]
        have q2 : rowOf d.w b' = rowOf c.w b' := by simp only [rowOf, r2]
        rw [q1] at hg
        rw [q2]
        exact hh.x.sep b b' _ _ _ _ _ _ k1 k2 hne g hg
  · by_cases hbs : b = c.w.heap.size
    · subst hbs
      rw [hH, AHeap.set_same] at h
      injection h with h
      cases h
    · have h1 := back b _ hbs h
      obtain ⟨p, e, z, q⟩ := hh.x.tab b cs h1
      exact ⟨by rw [hb]; exact p, e, z, by rw [heap_push_old hw (hh.lt b _ h1)]; exact q⟩
  · by_cases hbs : b = c.w.heap.size
    · subst hbs
      rw [hH, AHeap.set_same] at h
      injection h with h
      cases h
    · have h1 := back b _ hbs h
      obtain ⟨es, clock, q, r⟩ := hh.x.mp b l h1
      exact ⟨es, clock, by rw [heap_push_old hw (hh.lt b _ h1)]; exact q, r⟩
  · by_cases hbs : b = c.w.heap.size
    · subst hbs
      rw [hH, AHeap.set_same] at h
      injection h with h
      cases h
    · have h := back b _ hbs h
      obtain ⟨p, cs', e', q1, q2⟩ := hh.box b v h
      exact ⟨by rw [hl]; exact p, cs', e', by rw [heap_push_old hw (hh.lt b _ h)]; exact q1, q2.mono hle⟩
  · by_cases hbs : b = c.w.heap.size
    · subst hbs
      rw [hH, AHeap.set_same] at h
      injection h with h
      cases h
    · have h := back b _ hbs h
      obtain ⟨p, cs', q1, q2⟩ := hh.row b n s e' h
      exact ⟨by rw [hl]; exact p, cs', by rw [heap_push_old hw (hh.lt b _ h)]; exact q1, q2⟩

/-- A set of strings is made, or grows by one. -/
theorem Cx.Le.mp_step {c d : Cx} {b0 : Nat} {l' : List (List UInt8)} (hh : RH c) (hb : d.base = c.base) (hl : d.lim = c.lim) (hsz : c.w.heap.size ≤ d.w.heap.size) (h1 : d.w.os = c.w.os) (h2 : d.w.tape = c.w.tape) (h3 : d.w.output = c.w.output)
    (hoth : ∀ x, x < c.w.heap.size → x ≠ b0 → d.w.heap[x]? = c.w.heap[x]?) (hb0 : b0 = c.w.heap.size ∨ ∃ l, c.H b0 = some (.mp l)) (hH : d.H = c.H.set b0 (.mp l')) (hds : d.ds = c.ds := by rfl) : c.Le d where
  ds := hds
  base := hb
  size := hsz
  rd := fun a u hr => by
    have hlt := World.block_lt_of_cell? c.w a hr.2
    have hne : a.block ≠ b0 := fun e => by
      rcases hb0 with h | ⟨l, h⟩
      · omega
      · obtain ⟨es, clock, q, _⟩ := hh.x.mp b0 l h
        have h4 := hr.2
        unfold World.cell? at h4
        rw [e, q] at h4
        cases h4
    refine ⟨hr.1.imp (fun h => by rw [hb]; exact h) (fun h => by rw [hl]; exact h), ?_⟩
    rw [World.cell?_of_block (hoth _ hlt hne)]
    exact hr.2
  old := fun b hlt => by
    refine hoth b (Nat.lt_of_lt_of_le hlt hh.base) fun e => ?_
    rcases hb0 with h | ⟨l, h⟩
    · have := hh.base; omega
    · have := hh.ge b0 _ h rfl; omega
  os := h1
  tape := h2
  output := h3
  row := fun b n s e hlt hr => by
    have hne : b ≠ b0 := fun e => by subst e; rw [hH, AHeap.set_same] at hr; cases hr
    rw [hH, AHeap.set_ne _ _ hne] at hr
    exact .inl ⟨hr, hoth b hlt hne⟩

theorem RH.mp_step {c d : Cx} {b0 : Nat} {l' : List (List UInt8)} {es' : Array MapEntry} {clk' : Nat} (hh : RH c) (hle : c.Le d) (hb : d.base = c.base) (hl : d.lim = c.lim) (hsz : c.w.heap.size ≤ d.w.heap.size) (hlt0 : b0 < d.w.heap.size)
    (hoth : ∀ x, x < c.w.heap.size → x ≠ b0 → d.w.heap[x]? = c.w.heap[x]?) (hb0 : b0 = c.w.heap.size ∨ ∃ l, c.H b0 = some (.mp l)) (hH : d.H = c.H.set b0 (.mp l')) (hw : d.w.heap[b0]? = some (.map es' clk')) (hs : SetAt l' es') : RH d := by
  have hbase := hh.base
  have back : ∀ x o, x ≠ b0 → d.H x = some o → c.H x = some o := fun x o hx h => by rw [hH, AHeap.set_ne _ _ hx] at h; exact h
  have same : ∀ x o, x ≠ b0 → c.H x = some o → d.w.heap[x]? = c.w.heap[x]? := fun x o hx h => hoth x (hh.lt x o h) hx
  have hge0 : c.base ≤ b0 ∧ c.lim b0 = 0 := by
    rcases hb0 with h | ⟨l, h⟩
    · subst h; exact ⟨hbase, hh.new _ (Nat.le_refl _)⟩
    · exact (hh.x.lt b0 _ h rfl).2 rfl
  have hx0 : ∀ b s T' e', d.H b = some (.bld s T' e') → b ≠ b0 ∧ c.H b = some (.bld s T' e') ∧ d.w.heap[b]? = c.w.heap[b]? := fun b s T' e' h => by
    have hne : b ≠ b0 := fun e => by subst e; rw [hH, AHeap.set_same] at h; cases h
    have h1 := back b _ hne h
    exact ⟨hne, h1, same b _ hne h1⟩
  refine ⟨by rw [hb]; omega, fun b hlt => by rw [hl]; exact hh.new b (by omega), fun b o h => ?_, fun b o h ho => ?_, ⟨fun b o h ho => ?_, fun b s T' e' h => ?_, fun b b' s T1 e1 s' T2 e2 h1 h2 hne g hg => ?_, fun b cs h => ?_, fun b l h => ?_⟩, fun b v h => ?_, fun b n s e' h => ?_⟩
  · by_cases hbs : b = b0
    · rw [hbs]; exact hlt0
    · have := hh.lt b o (back b o hbs h); omega
  · by_cases hbs : b = b0
    · rw [hb, hbs]; exact hge0.1
    · rw [hb]; exact hh.ge b o (back b o hbs h) ho
  · by_cases hbs : b = b0
    · rw [hbs, hb, hl]; exact ⟨hlt0, fun _ => hge0⟩
    · obtain ⟨p, q⟩ := hh.x.lt b o (back b o hbs h) ho
      exact ⟨by omega, fun h2 => ⟨by rw [hb]; exact (q h2).1, by rw [hl]; exact (q h2).2⟩⟩
  · obtain ⟨hne, h1, h2⟩ := hx0 b s T' e' h
    obtain ⟨p, v, e1, e2, e3⟩ := hh.x.bld b s T' e' h1
    refine ⟨p, v, by rw [h2]; exact e1, e2, ?_⟩
    rcases e3 with e3 | ⟨g, cap, cur, f1, ⟨f2, f3, f4, f5⟩, f6, f7, f8⟩
    · exact .inl e3
    · have hg : g < c.w.heap.size := by
        rcases Nat.lt_or_ge g c.w.heap.size with h' | h'
        · exact h'
        · rw [Array.getElem?_eq_none h'] at f6; cases f6
      have hg0 : g ≠ b0 := fun e => by
        subst e
        rcases hb0 with h | ⟨l, h⟩
        · omega
        · rw [f4] at h; cases h
      exact .inr ⟨g, cap, cur, f1, ⟨by rw [hb]; exact f2, f3, by rw [hH, AHeap.set_ne _ _ hg0]; exact f4, by rw [hl]; exact f5⟩, by rw [hoth g hg hg0]; exact f6, f7, f8⟩
  · obtain ⟨_, k1, r1⟩ := hx0 b _ _ _ h1
    obtain ⟨_, k2, r2⟩ := hx0 b' _ _ _ h2
    have q1 : rowOf d.w b = rowOf c.w b := by simp only [rowOf, r1]
    have q2 : rowOf d.w b' = rowOf c.w b' := by simp only [rowOf, r2]
    rw [q1] at hg
    rw [q2]
    exact hh.x.sep b b' _ _ _ _ _ _ k1 k2 hne g hg
  · have hbs : b ≠ b0 := fun e => by subst e; rw [hH, AHeap.set_same] at h; cases h
    have h1 := back b _ hbs h
    obtain ⟨p, e, z, q⟩ := hh.x.tab b cs h1
    exact ⟨by rw [hb]; exact p, e, z, by rw [same b _ hbs h1]; exact q⟩
  · by_cases hbs : b = b0
    · subst hbs
      rw [hH, AHeap.set_same] at h
      injection h with h
      injection h with h
      subst h
      exact ⟨es', clk', hw, hs⟩
    · have h1 := back b _ hbs h
      obtain ⟨es, clock, q, r⟩ := hh.x.mp b l h1
      exact ⟨es, clock, by rw [same b _ hbs h1]; exact q, r⟩
  · have hbs : b ≠ b0 := fun e => by subst e; rw [hH, AHeap.set_same] at h; cases h
    have h := back b _ hbs h
    obtain ⟨p, cs', e', q1, q2⟩ := hh.box b v h
    exact ⟨by rw [hl]; exact p, cs', e', by rw [same b _ hbs h]; exact q1, q2.mono hle⟩
  · have hbs : b ≠ b0 := fun e => by subst e; rw [hH, AHeap.set_same] at h; cases h
    have h := back b _ hbs h
    obtain ⟨p, cs', q1, q2⟩ := hh.row b n s e' h
    exact ⟨by rw [hl]; exact p, cs', by rw [same b _ hbs h]; exact q1, q2⟩

/-- The same, the new block bearing a row that may grow; 'b0': a row that is given up. -/
theorem RH.push_row {c d : Cx} {cs : Array Value} {e : TypeId} {n s : Nat} {H0 : AHeap} (hh : RH c) (hle : c.Le d) (hb : d.base = c.base) (hw : d.w.heap = c.w.heap.push (.cells cs e (0, 0)))
    (hl : ∀ b, b ≠ c.w.heap.size → d.lim b = c.lim b) (hln : d.lim c.w.heap.size = n * s) (hH0 : ∀ b o, H0 b = some o → c.H b = some o)
    (hH : d.H = H0.set c.w.heap.size (.row n s e)) (hn : n * s ≤ cs.size) : RH d where
  base := by rw [hb, hw]; simp; exact Nat.le_succ_of_le hh.base
  new := fun b hlt => by
    have hs : d.w.heap.size = c.w.heap.size + 1 := by rw [hw]; simp
    rw [hl b (by omega)]
    exact hh.new b (by omega)
  lt := fun b o hb' => by
    have hs : d.w.heap.size = c.w.heap.size + 1 := by rw [hw]; simp
    by_cases hbs : b = c.w.heap.size
    · omega
    · rw [hH, AHeap.set_ne _ _ hbs] at hb'
      have := hh.lt b o (hH0 _ _ hb')
      omega
  ge := fun b o hb' ho => by
    have hbase := hh.base
    by_cases hbs : b = c.w.heap.size
    · omega
    · rw [hH, AHeap.set_ne _ _ hbs] at hb'
      have := hh.ge b o (hH0 _ _ hb') ho
      omega
  x := hh.x.keep hb hle.size (fun x hx _ => ⟨heap_push_old hw hx, hl x (by omega)⟩) (fun x o ho hx => by
      by_cases hbs : x = c.w.heap.size
      · subst hbs
        rw [hH, AHeap.set_same] at hx
        injection hx with hx
        subst hx
        cases ho
      · rw [hH, AHeap.set_ne _ _ hbs] at hx
        exact hH0 _ _ hx) (fun x hx hn => by
      rw [hH, AHeap.set_ne _ _ (by omega)]
      cases hq : H0 x with
      | none => rfl
      | some o => rw [hH0 _ _ hq] at hn; cases hn)
  box := fun b x hb' => by
    by_cases hbs : b = c.w.heap.size
    · subst hbs
      rw [hH, AHeap.set_same] at hb'
      injection hb' with hb'
      cases hb'
    · rw [hH, AHeap.set_ne _ _ hbs] at hb'
      have hb' := hH0 _ _ hb'
      have hlt := hh.lt b _ hb'
      obtain ⟨p, cs', e', q1, q2⟩ := hh.box b x hb'
      exact ⟨by rw [hl b hbs]; exact p, cs', e', by rw [heap_push_old hw hlt]; exact q1, q2.mono hle⟩
  row := fun b n' s' e' hb' => by
    by_cases hbs : b = c.w.heap.size
    · subst hbs
      rw [hH, AHeap.set_same] at hb'
      injection hb' with hb'
      injection hb' with h1 h2 h3
      subst h1 h2 h3
      exact ⟨hln, cs, heap_push_new hw, hn⟩
    · rw [hH, AHeap.set_ne _ _ hbs] at hb'
      have hb' := hH0 _ _ hb'
      have hlt := hh.lt b _ hb'
      obtain ⟨p, cs', q1, q2⟩ := hh.row b n' s' e' hb'
      exact ⟨by rw [hl b hbs]; exact p, cs', by rw [heap_push_old hw hlt]; exact q1, q2⟩

/-- A store into a variable. -/
theorem Cx.Le.write {c d : Cx} {b : Nat} {v v' : AV} (hh : RH c) (hv : c.H b = some (.box v)) (hb : d.base = c.base) (hs : d.w.heap.size = c.w.heap.size) (ho : ∀ x, x ≠ b → d.w.heap[x]? = c.w.heap[x]?)
    (h1 : d.w.os = c.w.os) (h2 : d.w.tape = c.w.tape) (h3 : d.w.output = c.w.output) (hl : d.lim = c.lim) (hH : d.H = c.H.set b (.box v')) (hds : d.ds = c.ds := by rfl) : c.Le d where
  ds := hds
  base := hb
  size := by rw [hs]; exact Nat.le_refl _
  rd := fun a u hr => by
    have hne : a.block ≠ b := by
      intro e
      rcases hr.1 with h | h
      · have := (hh.at_ b _ hv).1; omega
      · rw [e, (hh.box b v hv).1] at h; omega
    refine ⟨hr.1.imp (fun h => by rw [hb]; exact h) (fun h => by rw [hl]; exact h), ?_⟩
    have := hr.2
    unfold World.cell? at this ⊢
    rw [ho _ hne]
    exact this
  old := fun x hx => ho x (by have := (hh.at_ b _ hv).1; omega)
  os := h1
  tape := h2
  output := h3
  row := fun x n s e hx hr => by
    by_cases hxb : x = b
    · subst hxb
      rw [hH, AHeap.set_same] at hr
      injection hr with hr
      cases hr
    · rw [hH, AHeap.set_ne _ _ hxb] at hr
      exact .inl ⟨hr, ho x hxb⟩

theorem RH.write {c d : Cx} {b : Nat} {v v' : AV} {cs : Array Value} {e : TypeId} (hh : RH c) (hle : c.Le d) (hv : c.H b = some (.box v)) (hb : d.base = c.base) (hs : d.w.heap.size = c.w.heap.size) (ho : ∀ x, x ≠ b → d.w.heap[x]? = c.w.heap[x]?)
    (hl : d.lim = c.lim) (hH : d.H = c.H.set b (.box v')) (hw : d.w.heap[b]? = some (.cells cs e (0, 0))) (hr : RepC d v' cs.toList) : RH d where
  base := by rw [hb, hs]; exact hh.base
  new := fun x hx => by rw [hl]; exact hh.new x (by omega)
  lt := fun x o hx => by
    by_cases hxb : x = b
    · subst hxb
      have := hh.lt x _ hv
      omega
    · rw [hH, AHeap.set_ne _ _ hxb] at hx
      have := hh.lt x o hx
      omega
  ge := fun x o hx ho' => by
    by_cases hxb : x = b
    · subst hxb
      have := hh.ge x _ hv rfl
      omega
    · rw [hH, AHeap.set_ne _ _ hxb] at hx
      have := hh.ge x o hx ho'
      omega
  x := hh.x.keep hb hle.size (fun x hx ho' => ⟨ho x (fun e => by subst e; cases ho' _ hv), by rw [hl]⟩) (fun x o ho' hx => by
      by_cases hxb : x = b
      · subst hxb
        rw [hH, AHeap.set_same] at hx
        injection hx with hx
        subst hx
        cases ho'
      · rw [hH, AHeap.set_ne _ _ hxb] at hx
        exact hx) (fun x hx hn => by rw [hH, AHeap.set_ne _ _ fun e => by subst e; rw [hv] at hn; cases hn]; exact hn)
  box := fun x y hx => by
    by_cases hxb : x = b
    · subst hxb
      rw [hH, AHeap.set_same] at hx
      injection hx with hx
      injection hx with hx
      subst hx
      exact ⟨by rw [hl]; exact (hh.box x _ hv).1, cs, e, hw, hr⟩
    · rw [hH, AHeap.set_ne _ _ hxb] at hx
      obtain ⟨p, cs', e', q1, q2⟩ := hh.box x y hx
      exact ⟨by rw [hl]; exact p, cs', e', by rw [ho x hxb]; exact q1, q2.mono hle⟩
  row := fun x n s e' hx => by
    by_cases hxb : x = b
    · subst hxb
      rw [hH, AHeap.set_same] at hx
      injection hx with hx
      cases hx
    · rw [hH, AHeap.set_ne _ _ hxb] at hx
      obtain ⟨p, cs', q1, q2⟩ := hh.row x n s e' hx
      exact ⟨by rw [hl]; exact p, cs', by rw [ho x hxb]; exact q1, q2⟩

/-- A row grows in place. -/
theorem Cx.Le.grow {c d : Cx} {b n m s : Nat} {e : TypeId} {cs cs' : Array Value} (hh : RH c) (hv : c.H b = some (.row n s e)) (hm : 0 < m) (hb : d.base = c.base) (hs : d.w.heap.size = c.w.heap.size) (ho : ∀ x, x ≠ b → d.w.heap[x]? = c.w.heap[x]?)
    (h1 : d.w.os = c.w.os) (h2 : d.w.tape = c.w.tape) (h3 : d.w.output = c.w.output) (hl : ∀ x, x ≠ b → d.lim x = c.lim x) (hlb : d.lim b = (n + m) * s) (hH : d.H = (c.H.del b).set b (.row (n + m) s e))
    (hw : c.w.heap[b]? = some (.cells cs e (0, 0))) (hw' : d.w.heap[b]? = some (.cells cs' e (0, 0))) (hsame : ∀ i, i < n * s → cs'[i]? = cs[i]?) (hds : d.ds = c.ds := by rfl) : c.Le d where
  ds := hds
  base := hb
  size := by rw [hs]; exact Nat.le_refl _
  rd := fun a u hr => by
    by_cases hab : a.block = b
    · have hbase := (hh.at_ b _ hv).1
      have hlim := (hh.row b n s e hv).1
      rcases hr.1 with h | h
      · omega
      · rw [hab, hlim] at h
        refine ⟨.inr ?_, ?_⟩
        · rw [hab, hlb, Nat.add_mul]; omega
        · have := hr.2
          unfold World.cell? at this ⊢
          rw [hab, hw] at this
          rw [hab, hw']
          simp only at this ⊢
          split at this
          · cases this
          · rename_i hsp
            rw [if_neg hsp, hsame _ h]
            exact this
    · refine ⟨hr.1.imp (fun h => by rw [hb]; exact h) (fun h => by rw [hl _ hab]; exact h), ?_⟩
      have := hr.2
      unfold World.cell? at this ⊢
      rw [ho _ hab]
      exact this
  old := fun x hx => ho x (by have := (hh.at_ b _ hv).1; omega)
  os := h1
  tape := h2
  output := h3
  row := fun x n' s' e' hx hr => by
    by_cases hxb : x = b
    · subst hxb
      rw [hH, AHeap.set_same] at hr
      injection hr with hr
      injection hr with g1 g2 g3
      subst g1 g2 g3
      exact .inr ⟨n, by omega, hv⟩
    · rw [hH, AHeap.set_ne _ _ hxb] at hr
      simp only [AHeap.del, if_neg hxb] at hr
      exact .inl ⟨hr, ho x hxb⟩

theorem RH.grow {c d : Cx} {b n m s : Nat} {e : TypeId} {cs' : Array Value} (hh : RH c) (hle : c.Le d) (hv : c.H b = some (.row n s e)) (hb : d.base = c.base) (hs : d.w.heap.size = c.w.heap.size) (ho : ∀ x, x ≠ b → d.w.heap[x]? = c.w.heap[x]?)
    (hl : ∀ x, x ≠ b → d.lim x = c.lim x) (hlb : d.lim b = (n + m) * s) (hH : d.H = (c.H.del b).set b (.row (n + m) s e))
    (hw' : d.w.heap[b]? = some (.cells cs' e (0, 0))) (hsz : (n + m) * s ≤ cs'.size) : RH d where
  base := by rw [hb, hs]; exact hh.base
  new := fun x hx => by
    have := (hh.at_ b _ hv).2
    rw [hl x (by omega)]
    exact hh.new x (by omega)
  lt := fun x o hx => by
    by_cases hxb : x = b
    · subst hxb
      have := hh.lt x _ hv
      omega
    · rw [hH, AHeap.set_ne _ _ hxb] at hx
      simp only [AHeap.del, if_neg hxb] at hx
      have := hh.lt x o hx
      omega
  ge := fun x o hx ho' => by
    by_cases hxb : x = b
    · subst hxb
      have := hh.ge x _ hv rfl
      omega
    · rw [hH, AHeap.set_ne _ _ hxb] at hx
      simp only [AHeap.del, if_neg hxb] at hx
      have := hh.ge x o hx ho'
      omega
  x := hh.x.keep hb hle.size (fun x hx ho' => by
      have hxb : x ≠ b := fun e => by subst e; cases ho' _ hv
      exact ⟨ho x hxb, hl x hxb⟩) (fun x o ho' hx => by
      by_cases hxb : x = b
      · subst hxb
        rw [hH, AHeap.set_same] at hx
        injection hx with hx
        subst hx
        cases ho'
      · rw [hH, AHeap.set_ne _ _ hxb] at hx
        simp only [AHeap.del, if_neg hxb] at hx
        exact hx) (fun x hx hn => by
      have hxb : x ≠ b := fun e => by subst e; rw [hv] at hn; cases hn
      rw [hH, AHeap.set_ne _ _ hxb]
      simp only [AHeap.del, if_neg hxb]
      exact hn)
  box := fun x y hx => by
    by_cases hxb : x = b
    · subst hxb
      rw [hH, AHeap.set_same] at hx
      injection hx with hx
      cases hx
    · rw [hH, AHeap.set_ne _ _ hxb] at hx
      simp only [AHeap.del, if_neg hxb] at hx
      obtain ⟨p, cs', e', q1, q2⟩ := hh.box x y hx
      exact ⟨by rw [hl x hxb]; exact p, cs', e', by rw [ho x hxb]; exact q1, q2.mono hle⟩
  row := fun x n' s' e' hx => by
    by_cases hxb : x = b
    · subst hxb
      rw [hH, AHeap.set_same] at hx
      injection hx with hx
      injection hx with g1 g2 g3
      subst g1 g2 g3
      exact ⟨hlb, cs', hw', hsz⟩
    · rw [hH, AHeap.set_ne _ _ hxb] at hx
      simp only [AHeap.del, if_neg hxb] at hx
      obtain ⟨p, cs', q1, q2⟩ := hh.row x n' s' e' hx
      exact ⟨by rw [hl x hxb]; exact p, cs', by rw [ho x hxb]; exact q1, q2⟩
end Go.Av
