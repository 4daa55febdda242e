/- An argument that is a grammar, as an abstract value. -/
import Derived.Test.YtpdbcfnmhicnbaaDoorT4
import Derived.Test.YtpdbcfnmhicnbaaDoorAvG
set_option linter.unusedVariables false
set_option linter.unusedSimpArgs false
namespace Go.Av
open Go

theorem reads_struct4 {α β γ δ : Type} {P : Program} {N : Nat} {t t1 t2 t3 t4 : TypeId} {a b c d : Nat} {o1 o2 o3 o4 : Nat} {av1 : α → AV} {av2 : β → AV} {av3 : γ → AV} {av4 : δ → AV} {ok1 : α → Prop} {ok2 : β → Prop} {ok3 : γ → Prop} {ok4 : δ → Prop}
    (hf : FldsAre P t [(t1, o1), (t2, o2), (t3, o3), (t4, o4)]) (hc : P.cellsOf t = a + b + c + d) (h1 : P.cellsOf t1 = a) (h2 : P.cellsOf t2 = b) (h3 : P.cellsOf t3 = c) (h4 : P.cellsOf t4 = d) (e1 : o1 = 0) (e2 : o2 = a) (e3 : o3 = a + b) (e4 : o4 = a + b + c)
    (r1 : ReadsN P N t1 a av1 ok1) (r2 : ReadsN P N t2 b av2 ok2) (r3 : ReadsN P N t3 c av3 ok3) (r4 : ReadsN P N t4 d av4 ok4) :
    ReadsN P (N + 1) t (a + b + c + d) (fun p : α × β × γ × δ => .struct [av1 p.1, av2 p.2.1, av3 p.2.2.1, av4 p.2.2.2]) fun p => ok1 p.1 ∧ ok2 p.2.1 ∧ ok3 p.2.2.1 ∧ ok4 p.2.2.2 := by
  intro H enc W sp held n cs x hn hx hk
  obtain ⟨m, rfl, hlen, hp⟩ := trod_flds hf hx
  obtain ⟨y1, k1, w1⟩ := hp _ (List.mem_cons_self ..)
  obtain ⟨y2, k2, w2⟩ := hp _ (List.mem_cons_of_mem _ (List.mem_cons_self ..))
  obtain ⟨y3, k3, w3⟩ := hp _ (List.mem_cons_of_mem _ (List.mem_cons_of_mem _ (List.mem_cons_self ..)))
  obtain ⟨y4, k4, w4⟩ := hp _ (List.mem_cons_of_mem _ (List.mem_cons_of_mem _ (List.mem_cons_of_mem _ (List.mem_cons_self ..))))
  simp only [h1, h2, h3, h4, e1, e2, e3, e4, List.drop_zero] at k1 k2 k3 k4
  obtain ⟨g1, o1, p1, _⟩ := r1 H enc W sp held m _ _ (by omega) k1 (fun k hk' => hk k (w1 k hk'))
  obtain ⟨g2, o2, p2, _⟩ := r2 H enc W sp held m _ _ (by omega) k2 (fun k hk' => hk k (w2 k hk'))
  obtain ⟨g3, o3, p3, _⟩ := r3 H enc W sp held m _ _ (by omega) k3 (fun k hk' => hk k (w3 k hk'))
  obtain ⟨g4, o4, p4, _⟩ := r4 H enc W sp held m _ _ (by omega) k4 (fun k hk' => hk k (w4 k hk'))
  refine ⟨(g1, g2, g3, g4), ⟨o1, o2, o3, o4⟩, ?_, by omega⟩
  have e : cs = cs.take a ++ ((cs.drop a).take b ++ ((cs.drop (a + b)).take c ++ ((cs.drop (a + b + c)).take d ++ []))) := by
    rw [List.append_nil, List.take_of_length_le (l := cs.drop (a + b + c)) (by simp; omega), ← List.drop_drop (i := c), List.take_append_drop, ← List.drop_drop (i := b), List.take_append_drop, List.take_append_drop]
  rw [e]
  exact .scons p1 (.scons p2 (.scons p3 (.scons p4 .snil)))

/-- Where the types of a grammar lie. -/
structure MTy (P : Program) (G TS RS R IS S I : TypeId) : Prop where
  uI : P.underlying I = some (.int .i64)
  uS : P.underlying S = some .string
  uTS : P.underlying TS = some (.slice S)
  uIS : P.underlying IS = some (.slice I)
  uR : FldsAre P R [(I, 0), (IS, 1), (I, 2)]
  uRS : P.underlying RS = some (.slice R)
  uG : FldsAre P G [(TS, 0), (TS, 1), (I, 2), (RS, 3)]
  cI : P.cellsOf I = 1
  cS : P.cellsOf S = 1
  cTS : P.cellsOf TS = 1
  cIS : P.cellsOf IS = 1
  cR : P.cellsOf R = 3
  cRS : P.cellsOf RS = 1
  cG : P.cellsOf G = 4
  bI : 0 < P.bytesOf I
  bS : 0 < P.bytesOf S
  bR : 0 < P.bytesOf R

variable {P : Program} {G TS RS R IS S I : TypeId}

theorem MTy.rTS (g : MTy P G TS RS R IS S I) (N : Nat) : ReadsN P N TS 1 (fun l : List (List UInt8) => .list 1 (l.map AV.str)) fun _ => True := by
  have h := reads_slice g.uTS g.cS g.bS (Reads.n (reads_str P S g.uS) N)
  exact ReadsN.weak (ReadsN.map h id _ _ fun x _ => ⟨trivial, rfl⟩) (Nat.le_succ N)

theorem MTy.rR (g : MTy P G TS RS R IS S I) (N : Nat) : ReadsN P N R 3 Rl.av fun _ => True := by
  have h1 := reads_slice g.uIS g.cI g.bI (Reads.n (reads_int P I .i64 g.uI) N)
  have h := reads_struct3 g.uR (a := 1) (b := 1) (c := 1) g.cR g.cI g.cIS g.cI rfl rfl rfl (Reads.n (reads_int P I .i64 g.uI) N) (ReadsN.weak h1 (Nat.le_succ N)) (Reads.n (reads_int P I .i64 g.uI) N)
  exact ReadsN.weak (ReadsN.map h (fun p => Rl.mk p.1 p.2.1 p.2.2) _ _ fun x _ => ⟨trivial, rfl⟩) (Nat.le_succ N)

theorem MTy.rG (g : MTy P G TS RS R IS S I) : Reads P G 4 Gm.av fun _ => True := ReadsN.all fun N => by
  have h1 := reads_slice g.uRS g.cR g.bR (g.rR N)
  have h := reads_struct4 g.uG (a := 1) (b := 1) (c := 1) (d := 1) g.cG g.cTS g.cTS g.cI g.cRS rfl rfl rfl rfl (g.rTS N) (g.rTS N) (Reads.n (reads_int P I .i64 g.uI) N) (ReadsN.weak h1 (Nat.le_succ N))
  exact ReadsN.weak (ReadsN.map h (fun p => Gm.mk p.1 p.2.1 p.2.2.1 p.2.2.2) _ _ fun x _ => ⟨trivial, rfl⟩) (Nat.le_succ N)
end Go.Av
