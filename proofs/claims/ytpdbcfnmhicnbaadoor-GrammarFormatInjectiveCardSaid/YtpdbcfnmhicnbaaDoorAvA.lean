/- Abstract values of Go, and what it means that cells of memory bear one: plain definitions and laws, over any program. -/
import Derived.Orders
import Derived.Tactics
import Derived.Laws.AppendOwn
import Derived.Laws.Entries
import Derived.Laws.Tables
import Derived.Laws.Cells
import Derived.Deep.MidRow
import Derived.Laws.Strings
import Derived.Laws.Small
import Derived.Laws.BytesString
import Derived.WideLaws
set_option linter.unusedVariables false
set_option linter.unusedSimpArgs false
namespace Go.Av

/-- An abstract value: a tree. A slice is the list of its elements. -/
inductive AV where
  | bool (b : Bool)
  | int (k : IntKind) (n : Int)
  | str (s : List UInt8)
  | struct (fs : List AV)
  | list (sz : Nat) (l : List AV)
  | own (sz : Nat) (l : List AV) (b : Nat)
  | nils
  | ptr (b off : Nat) (path : List Nat)
  | view (v : AV)
  | fn (f : Fn) (first cap : List AV)
  | tuple (vs : List AV)
  | iface (t : TypeId) (v : AV)
  | nilp
  | nilf
  | nili
  | mapp (b : Nat)
  | undef
  deriving Inhabited

/-- What a block that may still be written is: a variable with its content, or the row of a slice that grows (its elements, their size, their type);
a text that is being built (its bytes; the block's type; the type of a byte); an old block of which some cells are known; or a set of strings (a map to struct). -/
inductive AObj where
  | box (v : AV)
  | row (n sz : Nat) (e : TypeId)
  | bld (s : List UInt8) (T e : TypeId)
  | tab (cs : List Value)
  | mp (l : List (List UInt8))
  deriving Inhabited

def AObj.isX : AObj → Bool
  | .bld .. | .tab .. | .mp .. => true
  | _ => false
def AObj.old : AObj → Bool
  | .tab .. => true
  | _ => false

abbrev AHeap := Nat → Option AObj

def AV.isAgg : AV → Bool
  | .struct _ => true
  | _ => false

mutual
/-- The number of cells. -/
def AV.size : AV → Nat
  | .struct fs => AV.sizes fs
  | _ => 1
def AV.sizes : List AV → Nat
  | [] => 0
  | v :: vs => v.size + AV.sizes vs
end

def valAgg : Value → Bool
  | .agg _ => true
  | _ => false

/-- The concrete state's part that the abstract one speaks of: blocks below 'base' are never written; of a later block the cells below its limit are never written again. -/
structure Cx where
  base : Nat
  lim : Nat → Nat
  w : World
  H : AHeap
  ds : List Deferred × List (Nat × Value) := ([], [])

def Cx.rd (c : Cx) (a : Addr) (u : Value) : Prop := (a.block < c.base ∨ a.off < c.lim a.block) ∧ c.w.cell? a = some u

/-- The cells bear the abstract value. -/
inductive RepC (c : Cx) : AV → List Value → Prop where
  | bool (b : Bool) : RepC c (.bool b) [.bool b]
  | int (k : IntKind) (n : Int) : RepC c (.int k n) [.int k n]
  | str (s : List UInt8) (h : s.length ≤ maxLen) : RepC c (.str s) [.string ⟨s.toArray⟩]
  | snil : RepC c (.struct []) []
  | scons {v : AV} {fs : List AV} {c1 c2 : List Value} (h1 : RepC c v c1) (h2 : RepC c (.struct fs) c2) : RepC c (.struct (v :: fs)) (c1 ++ c2)
  | list {sz : Nat} {l : List AV} {A : Option Addr} {cap : Nat} (css : Nat → List Value) (hc : l.length ≤ cap) (hm : cap ≤ maxLen)
      (hr : ∀ j v, l[j]? = some v → RepC c v (css j)) (hs : ∀ j, j < l.length → (css j).length = sz)
      (ha : ∀ j i u, j < l.length → (css j)[i]? = some u → ∃ ad, A = some ad ∧ c.rd (ad.add (j * sz + i)) u) : RepC c (.list sz l) [.slice A l.length cap]
  | own {sz : Nat} {l : List AV} {b : Nat} {A : Option Addr} {cap : Nat} (css : Nat → List Value) (hc : l.length ≤ cap) (hm : cap ≤ maxLen)
      (hr : ∀ j v, l[j]? = some v → RepC c v (css j)) (hs : ∀ j, j < l.length → (css j).length = sz)
      (ha : ∀ j i u, j < l.length → (css j)[i]? = some u → ∃ ad, A = some ad ∧ c.rd (ad.add (j * sz + i)) u)
      (hb : b < c.w.heap.size)
      (ho : ∀ n s e, c.H b = some (.row n s e) → s = sz ∧ l.length ≤ n ∧ (l.length = n → A = some ⟨b, 0, none⟩ ∧ ∃ cs, c.w.heap[b]? = some (.cells cs e (0, 0)) ∧ cs.size = cap * sz)) :
      RepC c (.own sz l b) [.slice A l.length cap]
  | ptr (b off : Nat) (path : List Nat) : RepC c (.ptr b off path) [.pointer (some ⟨b, off, none⟩)]
  | view {v : AV} {ad : Addr} {cs : List Value} (hv : RepC c v cs) (ha : ∀ i u, cs[i]? = some u → c.rd (ad.add i) u) : RepC c (.view v) [.pointer (some ad)]
  | fn {f : Fn} {l1 l2 : List AV} {u1 u2 : List Value} (h1 : u1.length = l1.length) (h2 : u2.length = l2.length)
      (r1 : ∀ (j : Nat) (v : AV) (u : Value), l1[j]? = some v → u1[j]? = some u → RepC c v u.cells.toList)
      (a1 : ∀ (j : Nat) (v : AV) (u : Value), l1[j]? = some v → u1[j]? = some u → v.isAgg = valAgg u)
      (r2 : ∀ (j : Nat) (v : AV) (u : Value), l2[j]? = some v → u2[j]? = some u → RepC c v u.cells.toList)
      (a2 : ∀ (j : Nat) (v : AV) (u : Value), l2[j]? = some v → u2[j]? = some u → v.isAgg = valAgg u) :
      RepC c (.fn f l1 l2) [.func f u1.toArray u2.toArray]
  | iface {t : TypeId} {v : AV} {u : Value} (h : RepC c v u.cells.toList) (a : v.isAgg = valAgg u) : RepC c (.iface t v) [.iface t u]
  | nils : RepC c .nils [.slice none 0 0]
  | nilp : RepC c .nilp [.pointer none]
  | nilf : RepC c .nilf [.nilFunc]
  | nili : RepC c .nili [.nilIface]
  | mapp (b : Nat) : RepC c (.mapp b) [.map (some b)]

/-- A plain value (no tuple) bears the abstract value. -/
def Rep1 (c : Cx) (v : AV) (u : Value) : Prop := RepC c v u.cells.toList ∧ v.isAgg = valAgg u

/-- A value bears the abstract value; 'undef' is borne by every value; a tuple by its parts. -/
def RepV (c : Cx) (v : AV) (u : Value) : Prop :=
  v = .undef ∨ Rep1 c v u ∨ ∃ (l : List AV) (us : List Value), v = .tuple l ∧ u = .tuple us.toArray ∧ us.length = l.length ∧ ∀ (j : Nat) (x : AV) (y : Value), l[j]? = some x → us[j]? = some y → Rep1 c x y

/-- Neither 'undef' nor a tuple: what a variable can hold. -/
def AV.sto : AV → Bool
  | .undef | .tuple _ => false
  | _ => true

/-- One state comes after another: what may be read stays, blocks below the base stay whole, rows only grow. -/
structure Cx.Le (c d : Cx) : Prop where
  base : d.base = c.base
  size : c.w.heap.size ≤ d.w.heap.size
  rd : ∀ a u, c.rd a u → d.rd a u
  old : ∀ b, b < c.base → d.w.heap[b]? = c.w.heap[b]?
  os : d.w.os = c.w.os
  tape : d.w.tape = c.w.tape
  output : d.w.output = c.w.output
  ds : d.ds = c.ds
  row : ∀ b n s e, b < c.w.heap.size → d.H b = some (.row n s e) →
    (c.H b = some (.row n s e) ∧ d.w.heap[b]? = c.w.heap[b]?) ∨ ∃ n0, n0 < n ∧ c.H b = some (.row n0 s e)

theorem Cx.Le.refl (c : Cx) : c.Le c := ⟨rfl, Nat.le_refl _, fun _ _ h => h, fun _ _ => rfl, rfl, rfl, rfl, rfl, fun _ _ _ _ _ h => .inl ⟨h, rfl⟩⟩

theorem Cx.Le.trans {c d e : Cx} (h : c.Le d) (k : d.Le e) : c.Le e where
  base := k.base.trans h.base
  size := Nat.le_trans h.size k.size
  rd := fun a u hu => k.rd a u (h.rd a u hu)
  old := fun b hb => (k.old b (by rw [h.base]; exact hb)).trans (h.old b hb)
  os := k.os.trans h.os
  tape := k.tape.trans h.tape
  output := k.output.trans h.output
  ds := k.ds.trans h.ds
  row := fun b n s t hb hH => by
    rcases k.row b n s t (Nat.lt_of_lt_of_le hb h.size) hH with ⟨h1, h2⟩ | ⟨n0, h0, h1⟩
    · rcases h.row b n s t hb h1 with ⟨h3, h4⟩ | h3
      · exact .inl ⟨h3, h2.trans h4⟩
      · exact .inr h3
    · rcases h.row b n0 s t hb h1 with ⟨h3, _⟩ | ⟨n1, h4, h3⟩
      · exact .inr ⟨n0, h0, h3⟩
      · exact .inr ⟨n1, Nat.lt_trans h4 h0, h3⟩

theorem RepC.mono {c d : Cx} (h : c.Le d) {v : AV} {cs : List Value} (hr : RepC c v cs) : RepC d v cs := by
  induction hr with
  | bool b => exact .bool b
  | int k n => exact .int k n
  | str s hs => exact .str s hs
  | snil => exact .snil
  | scons _ _ i1 i2 => exact .scons i1 i2
  | list css hc hm _ hs ha ih =>
    exact .list css hc hm ih hs fun j i u hj hu => by
      obtain ⟨ad, e, hrd⟩ := ha j i u hj hu
      exact ⟨ad, e, h.rd _ _ hrd⟩
  | own css hc hm _ hs ha hb ho ih =>
    refine .own css hc hm ih hs (fun j i u hj hu => ?_) (Nat.lt_of_lt_of_le hb h.size) fun n s e hH => ?_
    · obtain ⟨ad, e, hrd⟩ := ha j i u hj hu
      exact ⟨ad, e, h.rd _ _ hrd⟩
    · rcases h.row _ n s e hb hH with ⟨h1, h2⟩ | ⟨n0, h0, h1⟩
      · obtain ⟨p1, p2, p3⟩ := ho n s e h1
        refine ⟨p1, p2, fun hl => ?_⟩
        obtain ⟨q1, cs, q2, q3⟩ := p3 hl
        exact ⟨q1, cs, h2.trans q2, q3⟩
      · obtain ⟨p1, p2, _⟩ := ho n0 s e h1
        exact ⟨p1, by omega, fun hl => by omega⟩
  | ptr b off path => exact .ptr b off path
  | view _ ha ih => exact .view ih fun i u hu => h.rd _ _ (ha i u hu)
  | fn h1 h2 _ a1 _ a2 i1 i2 => exact .fn h1 h2 i1 a1 i2 a2
  | iface _ a ih => exact .iface ih a
  | nils => exact .nils
  | nilp => exact .nilp
  | nilf => exact .nilf
  | nili => exact .nili
  | mapp b => exact .mapp b

theorem Rep1.mono {c d : Cx} (h : c.Le d) {v : AV} {u : Value} (hr : Rep1 c v u) : Rep1 d v u := ⟨hr.1.mono h, hr.2⟩

theorem RepV.mono {c d : Cx} (h : c.Le d) {v : AV} {u : Value} (hr : RepV c v u) : RepV d v u :=
  hr.imp id fun h' => h'.imp (Rep1.mono h) fun ⟨l, us, e1, e2, e3, e4⟩ => ⟨l, us, e1, e2, e3, fun j x y hx hy => (e4 j x y hx hy).mono h⟩

theorem RepV.one {c : Cx} {v : AV} {u : Value} (h : RepV c v u) (hs : v.sto = true) : Rep1 c v u := by
  rcases h with rfl | h | ⟨l, us, rfl, _⟩
  · cases hs
  · exact h
  · cases hs

theorem Rep1.v {c : Cx} {v : AV} {u : Value} (h : Rep1 c v u) : RepV c v u := .inr (.inl h)

/-- No cell holds an aggregate or a tuple. -/
theorem RepC.oneCell {c : Cx} {v : AV} {cs : List Value} (hr : RepC c v cs) : ∀ u ∈ cs, u.oneCell' = true := by
  induction hr with
  | scons _ _ i1 i2 => intro u hu; rcases List.mem_append.1 hu with h | h; exact i1 u h; exact i2 u h
  | snil => intro u hu; cases hu
  | _ => intro u hu; simp at hu; subst hu; rfl

theorem RepC.length {c : Cx} {v : AV} {cs : List Value} (hr : RepC c v cs) : cs.length = v.size := by
  induction hr with
  | scons _ _ i1 i2 => simp only [List.length_append, i1, i2, AV.size, AV.sizes]
  | _ => simp [AV.size, AV.sizes]

def byteVals (s : List UInt8) : List Value := s.map fun b => .int .u8 (b.toNat : Int)

/-- The buffer of a text that is being built. -/
def BufAt (c : Cx) (b : Nat) (s : List UInt8) (e : TypeId) (v : Value) : Prop :=
  (v = .slice none 0 0 ∧ s = []) ∨ ∃ g cap cur, v = .slice (some ⟨g, 0, none⟩) s.length cap ∧ (c.base ≤ g ∧ g ≠ b ∧ c.H g = none ∧ c.lim g = 0) ∧ c.w.heap[g]? = some (.cells cur e (0, 0)) ∧
    (s.length ≤ cap ∧ cap ≤ maxLen ∧ cur.size = cap) ∧ cur.toList.take s.length = byteVals s

def rowOf (w : World) (b : Nat) : Option Nat :=
  match w.heap[b]? with
  | some (.cells cs _ _) => match (cs.toList[1]? : Option Value) with
    | some (Value.slice (some a) _ _) => some a.block
    | _ => none
  | _ => none

/-- The entries of a set of strings. -/
def SetAt (l : List (List UInt8)) (es : Array MapEntry) : Prop :=
  es.toList.map (fun x => x.key) = l.map (fun s => Value.string ⟨s.toArray⟩) ∧ ∀ x ∈ es.toList, x.val = .agg #[]

/-- The texts that are being built, and the old blocks of which cells are known. -/
structure RHX (c : Cx) : Prop where
  lt : ∀ b o, c.H b = some o → o.isX = true → b < c.w.heap.size ∧ (o.old = false → c.base ≤ b ∧ c.lim b = 0)
  bld : ∀ b s T e, c.H b = some (.bld s T e) → ∃ p v, c.w.heap[b]? = some (.cells #[p, v] T (0, 0)) ∧ (p = .pointer none ∨ p = .pointer (some ⟨b, 0, none⟩)) ∧ BufAt c b s e v
  sep : ∀ b b' s T e s' T' e', c.H b = some (.bld s T e) → c.H b' = some (.bld s' T' e') → b ≠ b' → ∀ g, rowOf c.w b = some g → rowOf c.w b' ≠ some g
  tab : ∀ b cs, c.H b = some (.tab cs) → b < c.base ∧ ∃ e z, c.w.heap[b]? = some (.cells cs.toArray e z)
  mp : ∀ b l, c.H b = some (.mp l) → ∃ es clock, c.w.heap[b]? = some (.map es clock) ∧ SetAt l es

theorem RHX.keep {c d : Cx} (h : RHX c) (hb : d.base = c.base) (hsz : c.w.heap.size ≤ d.w.heap.size) (hold : ∀ x, x < c.w.heap.size → (∀ o, c.H x = some o → o.isX = true) → d.w.heap[x]? = c.w.heap[x]? ∧ d.lim x = c.lim x)
    (hH : ∀ x o, o.isX = true → d.H x = some o → c.H x = some o) (hn : ∀ x, x < c.w.heap.size → c.H x = none → d.H x = none) : RHX d := by
  have hbl : ∀ b s T e, c.H b = some (.bld s T e) → d.w.heap[b]? = c.w.heap[b]? ∧ d.lim b = c.lim b := fun b s T e hb' =>
    hold b (h.lt b _ hb' rfl).1 fun o ho => by rw [hb'] at ho; injection ho with ho; subst ho; rfl
  refine ⟨fun b o ho hx => ?_, fun b s T e hb' => ?_, fun b b' s T e s' T' e' h1 h2 hne g hg => ?_, fun b cs hb' => ?_, fun b l hb' => ?_⟩
  · have h1 := hH b o hx ho
    obtain ⟨p, q⟩ := h.lt b o h1 hx
    refine ⟨by omega, fun h2 => ?_⟩
    obtain ⟨q1, q2⟩ := q h2
    refine ⟨by omega, ?_⟩
    rw [(hold b p fun o' ho' => by rw [h1] at ho'; injection ho' with ho'; subst ho'; exact hx).2]
    exact q2
  · have h1 := hH b _ rfl hb'
    obtain ⟨p, v, e1, e2, e3⟩ := h.bld b s T e h1
    refine ⟨p, v, by rw [(hbl b s T e h1).1]; exact e1, e2, ?_⟩
    rcases e3 with e3 | ⟨g, cap, cur, f1, ⟨f2, f3, f4, f5⟩, f6, f7, f8⟩
    · exact .inl e3
    · have hg : g < c.w.heap.size := by
        rcases Nat.lt_or_ge g c.w.heap.size with h' | h'
        · exact h'
        · rw [Array.getElem?_eq_none h'] at f6; cases f6
      have hk := hold g hg fun o ho => by rw [f4] at ho; cases ho
      exact .inr ⟨g, cap, cur, f1, ⟨by omega, f3, hn g hg f4, by rw [hk.2]; exact f5⟩, by rw [hk.1]; exact f6, f7, f8⟩
  · have k1 := hH b _ rfl h1
    have k2 := hH b' _ rfl h2
    have r1 : rowOf d.w b = rowOf c.w b := by simp only [rowOf, (hbl b s T e k1).1]
    have r2 : rowOf d.w b' = rowOf c.w b' := by simp only [rowOf, (hbl b' s' T' e' k2).1]
    rw [r1] at hg
    rw [r2]
    exact h.sep b b' s T e s' T' e' k1 k2 hne g hg
  · have h1 := hH b _ rfl hb'
    obtain ⟨p, e, z, q⟩ := h.tab b cs h1
    refine ⟨by omega, e, z, ?_⟩
    rw [(hold b (h.lt b _ h1 rfl).1 fun o ho => by rw [h1] at ho; injection ho with ho; subst ho; rfl).1]
    exact q
  · have h1 := hH b _ rfl hb'
    obtain ⟨es, clock, q, r⟩ := h.mp b l h1
    refine ⟨es, clock, ?_, r⟩
    rw [(hold b (h.lt b _ h1 rfl).1 fun o ho => by rw [h1] at ho; injection ho with ho; subst ho; rfl).1]
    exact q

/-- The heap's objects are there as they are told. -/
structure RH (c : Cx) : Prop where
  base : c.base ≤ c.w.heap.size
  new : ∀ b, c.w.heap.size ≤ b → c.lim b = 0
  lt : ∀ b o, c.H b = some o → b < c.w.heap.size
  ge : ∀ b o, c.H b = some o → o.old = false → c.base ≤ b
  x : RHX c
  box : ∀ b v, c.H b = some (.box v) → c.lim b = 0 ∧ ∃ cs e, c.w.heap[b]? = some (.cells cs e (0, 0)) ∧ RepC c v cs.toList
  row : ∀ b n s e, c.H b = some (.row n s e) → c.lim b = n * s ∧ ∃ cs, c.w.heap[b]? = some (.cells cs e (0, 0)) ∧ n * s ≤ cs.size

theorem RH.at_ {c : Cx} (h : RH c) (b : Nat) (o : AObj) (hb : c.H b = some o) (ho : o.old = false := by rfl) : c.base ≤ b ∧ b < c.w.heap.size := ⟨h.ge b o hb ho, h.lt b o hb⟩

/-- An environment: what some of the temporaries hold. -/
abbrev Env := List (Nat × AV)

def Env.get : Env → Nat → AV
  | [], _ => .undef
  | (j, v) :: e, i => if j = i then v else Env.get e i

def Env.set : Env → Nat → AV → Env
  | [], i, v => [(i, v)]
  | (j, u) :: e, i, v => if i < j then (i, v) :: (j, u) :: e else if i = j then (i, v) :: e else (j, u) :: Env.set e i v

def Env.kill : Env → List Nat → Env
  | [], _ => []
  | (j, u) :: e, l => if l.contains j then Env.kill e l else (j, u) :: Env.kill e l

/-- The temporaries are as the environment tells; what is deferred, and what some temporaries keep, is what the context says. -/
structure RS (c : Cx) (n : Nat) (env : Env) (a : Act) : Prop where
  rep : ∀ i, RepV c (env.get i) (a.tmps.getD i undef)
  size : a.tmps.size = n
  defers : a.defers = c.ds.1
  keep : ∀ p ∈ c.ds.2, a.tmps.getD p.1 undef = p.2

theorem Env.get_set (e : Env) (i j : Nat) (v : AV) : (e.set i v).get j = if i = j then v else e.get j := by
  induction e with
  | nil => rfl
  | cons p e ih =>
    obtain ⟨k, u⟩ := p
    simp only [Env.set]
    split
    · simp only [Env.get]
    · split
      · rename_i h1 h; subst h; simp only [Env.get]; split <;> simp_all
      · rename_i h0 h; simp only [Env.get, ih]; split
        · rename_i h2; subst h2; split
          · rename_i h3; exact absurd h3 h
          · rfl
        · rfl

theorem Env.set_comm (e : Env) (i j : Nat) (v u : AV) (h : i ≠ j) : (e.set i v).set j u = (e.set j u).set i v := by
  induction e with
  | nil =>
    simp only [Env.set]
    by_cases h1 : i < j
    · have h2 : ¬ j < i := by omega
      have h3 : ¬ j = i := by omega
      simp [h1, h2, h3]
    · have h2 : j < i := by omega
      have h3 : ¬ i = j := by omega
      simp [h1, h2, h3]
  | cons p e ih =>
    obtain ⟨k, x⟩ := p
    rcases Nat.lt_trichotomy i k with hi | hi | hi <;> rcases Nat.lt_trichotomy j k with hj | hj | hj
    · rcases Nat.lt_or_gt_of_ne h with hij | hij
      · have a1 : ¬ j < i := by omega
        have a2 : ¬ j = i := by omega
        simp [Env.set, hi, hj, hij, a1, a2]
      · have a1 : ¬ i < j := by omega
        have a2 : ¬ i = j := by omega
        simp [Env.set, hi, hj, hij, a1, a2]
    · subst hj
      have a1 : ¬ j < i := by omega
      have a2 : ¬ j = i := by omega
      simp [Env.set, hi, a1, a2]
    · have a1 : ¬ j < i := by omega
      have a2 : ¬ j = i := by omega
      have a3 : ¬ j < k := by omega
      have a4 : ¬ j = k := by omega
      simp [Env.set, hi, a1, a2, a3, a4]
    · subst hi
      have a1 : ¬ i < j := by omega
      have a2 : ¬ i = j := by omega
      simp [Env.set, hj, a1, a2]
    · omega
    · subst hi
      have a1 : ¬ j < i := by omega
      have a2 : ¬ j = i := by omega
      simp [Env.set, a1, a2]
    · have a1 : ¬ i < j := by omega
      have a2 : ¬ i = j := by omega
      have a3 : ¬ i < k := by omega
      have a4 : ¬ i = k := by omega
      simp [Env.set, hj, a1, a2, a3, a4]
    · subst hj
      have a1 : ¬ i < j := by omega
      have a2 : ¬ i = j := by omega
      simp [Env.set, a1, a2]
    · have a1 : ¬ i < k := by omega
      have a2 : ¬ i = k := by omega
      have a3 : ¬ j < k := by omega
      have a4 : ¬ j = k := by omega
      simp [Env.set, a1, a2, a3, a4, ih]

theorem Env.get_kill (e : Env) (l : List Nat) (j : Nat) : (e.kill l).get j = e.get j ∨ (e.kill l).get j = .undef := by
  induction e with
  | nil => exact .inl rfl
  | cons p e ih =>
    obtain ⟨k, u⟩ := p
    simp only [Env.kill]
    split
    · rename_i h
      rcases ih with h1 | h1
      · simp only [Env.get]
        split
        · rename_i h2
          subst h2
          by_cases h3 : (Env.kill e l).get k = .undef
          · exact .inr h3
          · refine .inr ?_
            exfalso
            refine h3 ?_
            clear h3 h1
            induction e with
            | nil => rfl
            | cons q e ih2 =>
              obtain ⟨m, x⟩ := q
              simp only [Env.kill]
              split
              · exact ih2
              · rename_i h4
                simp only [Env.get]
                split
                · rename_i h5; subst h5; exact absurd h h4
                · exact ih2
        · exact .inl h1
      · exact .inr h1
    · simp only [Env.get]
      split
      · exact .inl rfl
      · exact ih

theorem RS.mono {c d : Cx} (h : c.Le d) {n : Nat} {env : Env} {a : Act} (hr : RS c n env a) : RS d n env a := ⟨fun i => (hr.rep i).mono h, hr.size, by rw [h.ds]; exact hr.defers, by rw [h.ds]; exact hr.keep⟩

theorem RS.put {c : Cx} {n : Nat} {env : Env} {a : Act} (hr : RS c n env a) {d : Nat} (hd : d < n) {v : AV} {u : Value} (hv : RepV c v u) (hkp : ∀ p ∈ c.ds.2, p.1 ≠ d) : RS c n (env.set d v) (a.put (some d) u) where
  rep := fun i => by
    rw [Env.get_set]
    by_cases h : d = i
    · subst h
      rw [if_pos rfl]
      have : (a.put (some d) u).tmps.getD d undef = u := by simp [Act.put, Array.getD_eq_getD_getElem?, hr.size, hd]
      rw [this]
      exact hv
    · rw [if_neg h]
      have : (a.put (some d) u).tmps.getD i undef = a.tmps.getD i undef := by simp [Act.put, Array.getD_eq_getD_getElem?, Array.getElem?_setIfInBounds_ne h]
      rw [this]
      exact hr.rep i
  size := by simp [Act.put, hr.size]
  defers := hr.defers
  keep := fun p hp => by
    have := hr.keep p hp
    rw [← this]
    simp [Act.put, Array.getD_eq_getD_getElem?, Array.getElem?_setIfInBounds_ne (Ne.symm (hkp p hp))]

theorem RS.kill {c : Cx} {n : Nat} {env : Env} {a : Act} (hr : RS c n env a) (l : List Nat) : RS c n (env.kill l) a where
  rep := fun i => by
    rcases env.get_kill l i with h | h
    · rw [h]; exact hr.rep i
    · rw [h]; exact .inl rfl
  size := hr.size
  defers := hr.defers
  keep := hr.keep
end Go.Av

namespace Go.Av

inductive Opd where
  | t (i : Nat)
  | c (v : AV)
  deriving Inhabited

def Opd.ev (env : Env) : Opd → AV
  | .t i => env.get i
  | .c v => v

inductive AOp where
  | mov (x : Opd)
  | pick (c a b : Opd)
  | alloc (z : AV) (e : TypeId)
  | allb (T e : TypeId)
  | box (x : Opd) (sz : Nat) (e : TypeId)
  | ld (agg : Bool) (sz : Nat) (x : Opd)
  | st (sz : Nat) (p x : Opd)
  | nilc (x : Opd)
  | bin (op : BinOp) (x y : Opd)
  | beq (ne : Bool) (x y : Opd)
  | ieqn (ne : Bool) (x : Opd)
  | not (x : Opd)
  | conv (k : IntKind) (x : Opd)
  | b2s (x : Opd)
  | fa (i off : Nat) (x : Opd)
  | fld (i off sz : Nat) (agg : Bool) (x : Opd)
  | ixa (sz : Nat) (x i : Opd)
  | ix (x i : Opd)
  | sls (x : Opd) (lo hi : Option Opd)
  | sll (sz : Nat) (x : Opd) (lo hi : Option Opd)
  | call (f : Opd) (xs : List Opd)
  | lenl (x : Opd)
  | lens (x : Opd)
  | mn (x y : Opd)
  | mx (x y : Opd)
  | app (e : TypeId) (sz bytes : Nat) (s x : Opd)
  | build (zs : List AV) (ps : List (Nat × Opd))
  | bsl (own : Bool) (e : TypeId) (sz n : Nat) (z : AV) (ps : List (Nat × Opd))
  | ext (x : Opd) (i : Nat)
  | mkfn (f : Fn) (first cap : List Opd)
  | mkif (t : TypeId) (x : Opd)
  | tas (t : TypeId) (x : Opd)
  | pan (x : Opd)
  | neg (x : Opd)
  | i2s (x : Opd)
  | s2b (x : Opd)
  | mkm
  | mpl (x k : Opd)
  | mpu (m k x : Opd)
  deriving Inhabited

/-- An operation, its slot, and the guard: a slot and the wanted outcome. -/
structure AI where
  d : Option Nat
  g : Option (Nat × Bool)
  op : AOp
  deriving Inhabited

inductive AC where
  | skip
  | ret
  | exit (id : Nat)
  | reg (ops : List AI) (kill : List Nat)
  | dreg (ops : List (AI × List Nat)) (kill : List Nat)
  | seq (a b : AC)
  | cond (x : Opd) (a b : AC)
  | block (id : Nat) (a : AC)
  | loop (a : AC)
  deriving Inhabited

/-! ### From loaded code -/

def ofConst : Value → Option AV
  | .bool b => some (.bool b)
  | .int k n => some (.int k n)
  | .string s => if s.data.toList.length ≤ 65536 then some (.str s.data.toList) else none
  | .slice none 0 0 => some .nils
  | .pointer none => some .nilp
  | .nilFunc => some .nilf
  | .nilIface => some .nili
  | _ => none

def readZs (rd : TypeId → List Value → Option (AV × List Value)) : List TypeId → List Value → Option (List AV × List Value)
  | [], cs => some ([], cs)
  | t :: ts, cs => match rd t cs with
    | some (v, r) => match readZs rd ts r with
      | some (vs, r') => some (v :: vs, r')
      | none => none
    | none => none

/-- A type's constant value out of its cells. -/
def readZ (P : Program) : Nat → TypeId → List Value → Option (AV × List Value)
  | 0, _, _ => none
  | n + 1, t, cs => match P.underlying t with
    | some (.struct fs) => match readZs (readZ P n) (fs.toList.map (·.type)) cs with
      | some (l, r) => some (.struct l, r)
      | none => none
    | some (.array ..) => none
    | some _ => match cs with
      | v :: r => match ofConst v with
        | some a => some (a, r)
        | none => none
      | [] => none
    | none => none

def szOf (P : Program) (t : TypeId) : Option Nat := (P.info? t).map (·.size)

def aggOf (P : Program) (t : TypeId) : Option Bool := (P.underlying t).map fun d => match d with | .struct _ | .array _ _ => true | _ => false

def zeroAV (P : Program) (t : TypeId) : Option AV :=
  match (P.info? t).bind (·.zero) with
  | some z => match readZ P 20 t z.cells.toList with
    | some (v, []) => if valAgg z = v.isAgg then some v else none
    | _ => none
  | none => none

def compOpd : Operand → Option Opd
  | .tmp t => some (.t t)
  | .const v => (ofConst v).map .c
  | .func f => some (.c (.fn (.func f) [] []))
  | .global _ => none

def compOpds : List Operand → Option (List Opd)
  | [] => some []
  | x :: xs => match compOpd x, compOpds xs with
    | some y, some ys => some (y :: ys)
    | _, _ => none

def compParts : List (Nat × Operand) → Option (List (Nat × Opd))
  | [] => some []
  | (i, x) :: xs => match compOpd x, compParts xs with
    | some y, some ys => some ((i, y) :: ys)
    | _, _ => none

def compOptOpd : Option Operand → Option (Option Opd)
  | none => some none
  | some x => (compOpd x).map some

/-- The zero value of a strings.Builder, or of a struct that embeds one. -/
def isBldZ : AV → Bool
  | .struct [.nilp, .nils] => true
  | .struct [.struct [.nilp, .nils]] => true
  | _ => false

def bufElem (P : Program) : Nat → TypeId → Option TypeId
  | 0, _ => none
  | n + 1, t => match P.underlying t with
    | some (.struct fs) => match fs.toList.getLast? with
      | some f => bufElem P n f.type
      | none => none
    | some (.slice e) => some e
    | _ => none

def compBld (P : Program) (T : TypeId) : Option AOp :=
  match zeroAV P T, bufElem P 5 T with
  | some z, some e => if isBldZ z then some (.allb T e) else none
  | _, _ => none

/-- The fields' places are as the fields' sizes make them. -/
def placesOk (P : Program) : Nat → List Field → List AV → Bool
  | _, [], [] => true
  | off, f :: fs, z :: zs => f.offset == off && (szOf P f.type == some z.size && placesOk P (off + z.size) fs zs)
  | _, _, _ => false

/-- A map from strings to the empty struct. -/
def isSetT (P : Program) (t : TypeId) : Bool :=
  match P.underlying t with
  | some (.map K E) => match P.underlying K, zeroAV P E with
    | some .string, some (.struct []) => true
    | _, _ => false
  | _ => false

def compOp (P : Program) (own : Bool) (o : Oper) : Option AOp :=
  match o.op with
  | .move x | .assign x => (compOpd x).map .mov
  | .pick c a b => do pure (.pick (← compOpd c) (← compOpd a) (← compOpd b))
  | .alloc e => if own then compBld P e else (zeroAV P e).map (.alloc · e)
  | .box e x => do
    let s ← szOf P e
    pure (.box (← compOpd x) s e)
  | .load t a => do pure (.ld (← aggOf P t) (← szOf P t) (← compOpd a))
  | .store t a x => do pure (.st (← szOf P t) (← compOpd a) (← compOpd x))
  | .nilCheck x => (compOpd x).map .nilc
  | .binOp op t x y _ =>
    match op, P.underlying t with
    | .eql, some .bool => do pure (.beq false (← compOpd x) (← compOpd y))
    | .neq, some .bool => do pure (.beq true (← compOpd x) (← compOpd y))
    | .eql, some (.interface _) => match y with | .const .nilIface => (compOpd x).map (.ieqn false) | _ => none
    | .neq, some (.interface _) => match y with | .const .nilIface => (compOpd x).map (.ieqn true) | _ => none
    | op, some (.int _) => do pure (.bin op (← compOpd x) (← compOpd y))
    | op, some .string => do pure (.bin op (← compOpd x) (← compOpd y))
    | _, _ => none
  | .unOp .not _ x => (compOpd x).map .not
  | .unOp .neg _ x => (compOpd x).map .neg
  | .convert src dst x =>
    match P.underlying src, P.underlying dst with
    | some (.int _), some (.int k) => (compOpd x).map (.conv k)
    | some (.slice e), some .string => match P.underlying e with
      | some (.int .u8) => (compOpd x).map .b2s
      | _ => none
    | some (.int _), some .string => (compOpd x).map .i2s
    | some .string, some (.slice e) => match P.underlying e with
      | some (.int .u8) => (compOpd x).map .s2b
      | _ => none
    | _, _ => none
  | .makeMap t none => if isSetT P t then some .mkm else none
  | .lookup t x k true => if isSetT P t then do pure (.mpl (← compOpd x) (← compOpd k)) else none
  | .mapUpdate t m k x => if isSetT P t then do pure (.mpu (← compOpd m) (← compOpd k) (← compOpd x)) else none
  | .makeInterface t x => match P.underlying t with
    | some (.interface _) => none
    | some _ => (compOpd x).map (.mkif t)
    | none => none
  | .makeFunc f first cap => do pure (.mkfn f (← compOpds first.toList) (← compOpds cap.toList))
  | .slice t x lo hi none =>
    match P.underlying t with
    | some .string => do pure (.sls (← compOpd x) (← compOptOpd lo) (← compOptOpd hi))
    | some (.slice e) => do pure (.sll (← szOf P e) (← compOpd x) (← compOptOpd lo) (← compOptOpd hi))
    | _ => none
  | .fieldAddr s x i =>
    match P.underlying s with
    | some (.struct fs) => match fs[i]? with
      | some f => match szOf P f.type with
        | some (_ + 1) => (compOpd x).map (.fa i f.offset)
        | _ => none
      | none => none
    | _ => none
  | .field s x i =>
    match P.underlying s with
    | some (.struct fs) => match fs[i]? with
      | some f => do pure (.fld i f.offset (← szOf P f.type) (← aggOf P f.type) (← compOpd x))
      | none => none
    | _ => none
  | .indexAddr t x i =>
    match P.underlying t with
    | some (.slice e) => match szOf P e with
      | some (s + 1) => do pure (.ixa (s + 1) (← compOpd x) (← compOpd i))
      | _ => none
    | _ => none
  | .index t x i =>
    match P.underlying t with
    | some .string => do pure (.ix (← compOpd x) (← compOpd i))
    | _ => none
  | .typeAssert x _ t false =>
    match P.underlying t with
    | some (.interface _) => none
    | some _ => (compOpd x).map (.tas t)
    | none => none
  | .extract x i => (compOpd x).map (.ext · i)
  | .panic x => (compOpd x).map .pan
  | .build t ps =>
    match P.underlying t, zeroAV P t with
    | some (.struct fs), some (.struct zs) => if placesOk P 0 fs.toList zs then (compParts ps.toList).map (.build zs) else none
    | _, _ => none
  | .buildSlice t n ps =>
    match P.underlying t with
    | some (.slice e) => match szOf P e, zeroAV P e with
      | some (s + 1), some z => if n * (s + 1) ≤ 65536 && z.size == s + 1 then (compParts ps.toList).map (.bsl own e (s + 1) n z) else none
      | _, _ => none
    | _ => none
  | .call c =>
    match c.callee with
    | .value f => do pure (.call (← compOpd f) (← compOpds c.args.toList))
    | .builtin .len =>
      match c.argTypes.toList, c.args.toList with
      | [t], [x] => match P.underlying t with
        | some .string => (compOpd x).map .lens
        | some (.slice _) => (compOpd x).map .lenl
        | _ => none
      | _, _ => none
    | .builtin .min => match c.args.toList with
      | [x, y] => do pure (.mn (← compOpd x) (← compOpd y))
      | _ => none
    | .builtin .max => match c.args.toList with
      | [x, y] => do pure (.mx (← compOpd x) (← compOpd y))
      | _ => none
    | .builtin .append =>
      match c.argTypes.toList, c.args.toList with
      | [t, u], [s, x] => if t == u then
          match P.underlying t with
          | some (.slice e) => match P.info? e with
            | some i => match i.size, zeroAV P e with
              | sz + 1, some z => if z.size == sz + 1 && decide (0 < i.bytes) then do pure (.app e (sz + 1) i.bytes (← compOpd s) (← compOpd x)) else none
              | _, _ => none
            | none => none
          | _ => none
        else none
      | _, _ => none
    | _ => none
  | _ => none

/-- One operation of a region; 'all': the region's operations, for the guards; 'n': how many temporaries there are. -/
def compAI (P : Program) (own : Bool) (n : Nat) (all : Array Oper) (o : Oper) : Option AI :=
  match compOp P own o with
  | none => none
  | some op =>
    match (match o.dst with | none => true | some d => decide (d < n)) with
    | false => none
    | true => match o.guard with
      | none => some ⟨o.dst, none, op⟩
      | some (j, want) => match (all[j]?).bind (·.dst) with
        | some s => some ⟨o.dst, some (s, want), op⟩
        | none => none

def compL (P : Program) (own : Nat → Bool) (n : Nat) (all : Array Oper) : Nat → List Oper → Option (List AI)
  | _, [] => some []
  | k, o :: os => match compAI P (own k) n all o, compL P own n all (k + 1) os with
    | some a, some as => some (a :: as)
    | _, _ => none

def aftersOf (o : Oper) : List Nat := (o.after.toList.filter fun e => Region.binds .any e).map (·.on)

/-- 'kl': for each region the slots that nobody reads behind it; 'ow': the slice literals that are to be rows of their own. -/
def comp (P : Program) (kl : Nat → List Nat) (ow : Nat → Nat → Bool) (n : Nat) : Code → Option AC
  | .skip => some .skip
  | .ret => some .ret
  | .exit id => some (.exit id)
  | .region id ops false => match compL P (ow id) n ops 0 ops.toList with
    | some l => some (.reg l (kl id))
    | none => none
  | .region id ops true => match compL P (ow id) n ops 0 ops.toList with
    | some l => some (.dreg (l.zip (ops.toList.map aftersOf)) (kl id))
    | none => none
  | .seq a b => match comp P kl ow n a, comp P kl ow n b with
    | some x, some y => some (.seq x y)
    | _, _ => none
  | .cond x a b => match compOpd x, comp P kl ow n a, comp P kl ow n b with
    | some z, some x, some y => some (.cond z x y)
    | _, _, _ => none
  | .block id a => match comp P kl ow n a with
    | some x => some (.block id x)
    | none => none
  | .loop a => match comp P kl ow n a with
    | some x => some (.loop x)
    | none => none
  | _ => none

/-! ### What an operation does -/

inductive ARes where
  | ret (v : AV)
  | pan (v : Value)

/-- The function has a Go body. -/
def hasBody (P : Program) (f : FuncId) : Bool :=
  match P.funcs[f]? with
  | some fn => fn.body.isSome && fn.name != "runtime.NumGoroutine"
  | none => false

/-- A CONTRACT: in whatever memory whose objects are as H tells, the call comes to a result and a heap of which 'post' holds; what could be read before can be read as before. -/
def ACalls (P : Program) (f : FuncId) (args : List AV) (H : AHeap) (post : ARes → AHeap → Prop) : Prop :=
  hasBody P f = true ∧ ∀ (c : Cx) (us : List Value), c.H = H → RH c → us.length = args.length → (∀ (j : Nat) (v : AV) (u : Value), args[j]? = some v → us[j]? = some u → RepV c v u) →
    Calls P f us.toArray c.w fun e w' => ∃ d : Cx, d.w = w' ∧ c.Le d ∧ RH d ∧
      match e with
      | .returned u => ∃ v, post (.ret v) d.H ∧ RepV d v u
      | .panicked chain => ∃ pv, chain = [{ v := pv, recovered := false }] ∧ post (.pan pv) d.H
      | .outgrown => False

theorem ACalls.mono {P : Program} {f : FuncId} {args : List AV} {H : AHeap} {post post' : ARes → AHeap → Prop} (h : ACalls P f args H post) (hp : ∀ r H', post r H' → post' r H') : ACalls P f args H post' :=
  ⟨h.1, fun c us h1 h2 h3 h4 => (h.2 c us h1 h2 h3 h4).mono fun e w' ⟨d, e1, e2, e3, e4⟩ => ⟨d, e1, e2, e3, by
    cases e with
    | returned u => obtain ⟨v, p, q⟩ := e4; exact ⟨v, hp _ _ p, q⟩
    | panicked ch => obtain ⟨pv, p, q⟩ := e4; exact ⟨pv, p, hp _ _ q⟩
    | outgrown => exact e4⟩⟩

def AHeap.set (H : AHeap) (b : Nat) (o : AObj) : AHeap := fun x => if x = b then some o else H x
def AHeap.del (H : AHeap) (b : Nat) : AHeap := fun x => if x = b then none else H x

/-- A part of a variable's content, by the fields' numbers; and where it lies. -/
def AV.at_ : AV → List Nat → Option AV
  | v, [] => some v
  | .struct fs, i :: p => match fs[i]? with
    | some f => AV.at_ f p
    | none => none
  | _, _ :: _ => none

def AV.offs : AV → List Nat → Nat
  | _, [] => 0
  | .struct fs, i :: p => match fs[i]? with
    | some f => AV.sizes (fs.take i) + AV.offs f p
    | none => 0
  | _, _ :: _ => 0

def AV.put : AV → List Nat → AV → AV
  | _, [], u => u
  | .struct fs, i :: p, u => match fs[i]? with
    | some f => .struct (fs.set i (AV.put f p u))
    | none => .struct fs
  | v, _ :: _, _ => v

/-- A slice's elements, as a list. -/
def AV.asList : AV → Option (Nat × List AV)
  | .list s l => some (s, l)
  | .own s l _ => some (s, l)
  | .nils => some (0, [])
  | _ => none

def AV.asInt : AV → Option Int
  | .int _ n => some n
  | _ => none

def setAll (l : List AV) : List (Nat × AV) → List AV
  | [] => l
  | (i, v) :: ps => setAll (l.set i v) ps

def partsOk (sizes : List Nat) : List (Nat × AV) → Prop
  | [] => True
  | (i, v) :: ps => (sizes[i]? = some v.size ∧ v.sto = true) ∧ partsOk sizes ps

def ibin (op : BinOp) (kd : IntKind) (a b : Int) (k : AV → Prop) : Prop :=
  match op with
  | .add => k (.int kd (kd.wrap (a + b)))
  | .sub => k (.int kd (kd.wrap (a - b)))
  | .mul => k (.int kd (kd.wrap (a * b)))
  | .quo => b ≠ 0 ∧ k (.int kd (kd.wrap (a.tdiv b)))
  | .rem => b ≠ 0 ∧ k (.int kd (a.tmod b))
  | .eql => k (.bool (a == b))
  | .neq => k (.bool (a != b))
  | .lss => k (.bool (decide (a < b)))
  | .leq => k (.bool (decide (a ≤ b)))
  | .gtr => k (.bool (decide (b < a)))
  | .geq => k (.bool (decide (b ≤ a)))
  | _ => False

def sbin (op : BinOp) (a b : List UInt8) (k : AV → Prop) : Prop :=
  match op with
  | .add => a.length + b.length ≤ maxLen ∧ k (.str (a ++ b))
  | .eql => k (.bool (a == b))
  | .neq => k (.bool (!(a == b)))
  | _ => False

def lohi (env : Env) (n : Nat) (lo hi : Option Opd) (k : Nat → Nat → Prop) : Prop :=
  match (match lo with | none => some (0 : Int) | some x => (x.ev env).asInt), (match hi with | none => some (n : Int) | some x => (x.ev env).asInt) with
  | some l, some h => (0 ≤ l ∧ l ≤ h ∧ h ≤ n) ∧ k l.toNat h.toNat
  | _, _ => False

/-- The operations that leave the heap alone. -/
def aval (H : AHeap) (env : Env) (op : AOp) (k : AV → Prop) : Prop :=
  match op with
  | .mov x => k (x.ev env)
  | .pick c a b => match c.ev env with
    | .bool t => k (if t then a.ev env else b.ev env)
    | _ => False
  | .ld agg sz x => match x.ev env with
    | .view v => (v.size = sz ∧ v.isAgg = agg) ∧ k v
    | .ptr b off p => match H b with
      | some (.box c) => ∃ v, c.at_ p = some v ∧ (c.offs p = off ∧ v.size = sz ∧ v.isAgg = agg) ∧ k v
      | _ => False
    | _ => False
  | .nilc x => match x.ev env with
    | .view v => k (.view v)
    | .ptr b off p => k (.ptr b off p)
    | .fn (.func f) l1 l2 => k (.fn (.func f) l1 l2)
    | _ => False
  | .bin op x y => match x.ev env, y.ev env with
    | .int k1 a, .int k2 b => if op = .shr then 0 ≤ b ∧ k (.int k1 (a.fdiv (2 ^ min b.toNat k1.bits))) else k1 = k2 ∧ ibin op k1 a b k
    | .str a, .str b => sbin op a b k
    | _, _ => False
  | .beq ne x y => match x.ev env, y.ev env with
    | .bool a, .bool b => k (.bool (if ne then !(a == b) else a == b))
    | _, _ => False
  | .ieqn ne x => match x.ev env with
    | .iface _ _ => k (.bool ne)
    | .nili => k (.bool (!ne))
    | _ => False
  | .not x => match x.ev env with
    | .bool b => k (.bool !b)
    | _ => False
  | .conv kd x => match x.ev env with
    | .int _ n => k (.int kd (kd.wrap n))
    | _ => False
  | .b2s x => match (x.ev env).asList with
    | some (_, l) => ∃ bs : List UInt8, l = bs.map (fun b => .int .u8 (b.toNat : Int)) ∧ k (.str bs)
    | none => False
  | .neg x => match x.ev env with
    | .int kd n => k (.int kd (kd.wrap (0 - n)))
    | _ => False
  | .i2s x => match x.ev env with
    | .int _ n => k (.str (Utf8.encode n).data.toList)
    | _ => False
  | .fa i off x => match x.ev env with
    | .ptr b o p => k (.ptr b (o + off) (p ++ [i]))
    | .view (.struct fs) => ∃ v, fs[i]? = some v ∧ AV.sizes (fs.take i) = off ∧ k (.view v)
    | _ => False
  | .fld i off sz agg x => match x.ev env with
    | .struct fs => ∃ v, fs[i]? = some v ∧ (AV.sizes (fs.take i) = off ∧ v.size = sz ∧ v.isAgg = agg) ∧ k v
    | _ => False
  | .ixa sz x i => match (x.ev env).asList, (i.ev env).asInt with
    | some (s, l), some n => (0 ≤ n ∧ s = sz) ∧ ∃ v, l[n.toNat]? = some v ∧ k (.view v)
    | _, _ => False
  | .ix x i => match x.ev env, (i.ev env).asInt with
    | .str s, some n => 0 ≤ n ∧ ∃ c, s[n.toNat]? = some c ∧ k (.int .u8 (c.toNat : Int))
    | _, _ => False
  | .sls x lo hi => match x.ev env with
    | .str s => lohi env s.length lo hi fun a b => k (.str ((s.take b).drop a))
    | _ => False
  | .sll sz x lo hi => match (x.ev env).asList with
    | some (s, l) => (l = [] ∨ s = sz) ∧ lohi env l.length lo hi fun a b => k (.list sz ((l.take b).drop a))
    | none => False
  | .lenl x => match (x.ev env).asList with
    | some (_, l) => l.length ≤ maxLen → k (.int .i64 (l.length : Int))
    | none => False
  | .lens x => match x.ev env with
    | .str s => s.length ≤ maxLen → k (.int .i64 (s.length : Int))
    | _ => False
  | .mn x y => match x.ev env, y.ev env with
    | .int k1 a, .int k2 b => k1 = k2 ∧ k (.int k1 (if b < a then b else a))
    | _, _ => False
  | .mx x y => match x.ev env, y.ev env with
    | .int k1 a, .int k2 b => k1 = k2 ∧ k (.int k1 (if a < b then b else a))
    | _, _ => False
  | .build zs ps => partsOk (zs.map AV.size) (ps.map fun p => (p.1, p.2.ev env)) ∧ k (.struct (setAll zs (ps.map fun p => (p.1, p.2.ev env))))
  | .ext x i => match x.ev env with
    | .tuple vs => ∃ v, vs[i]? = some v ∧ k v
    | _ => False
  | .mkfn f first cap => (∀ x ∈ first ++ cap, (x.ev env).sto = true) ∧ k (.fn f (first.map (Opd.ev env)) (cap.map (Opd.ev env)))
  | .mkif t x => (x.ev env).sto = true ∧ k (.iface t (x.ev env))
  | .tas t x => match x.ev env with
    | .iface t' v => t' = t ∧ k v
    | _ => False
  | _ => False

/-- Every operation: what is asked so that K holds of its value and of the heap behind it, or Kp of the panic. -/
def aop (P : Program) (H : AHeap) (env : Env) (op : AOp) (K : AV → AHeap → Prop) (Kp : Value → AHeap → Prop) : Prop :=
  match op with
  | .alloc z _ => ∀ b, H b = none → K (.ptr b 0 []) (H.set b (.box z))
  | .allb T e => ∀ b, H b = none → K (.ptr b 0 []) (H.set b (.bld [] T e))
  | .box x sz _ => ((x.ev env).size = sz ∧ (x.ev env).sto = true) ∧ ∀ b, H b = none → K (.ptr b 0 []) (H.set b (.box (x.ev env)))
  | .st sz p x => match p.ev env with
    | .ptr b off q => match H b with
      | some (.box c) => ∃ v0, c.at_ q = some v0 ∧ (c.offs q = off ∧ v0.size = sz ∧ (x.ev env).size = sz ∧ (x.ev env).sto = true) ∧ K .undef (H.set b (.box (c.put q (x.ev env))))
      | _ => False
    | _ => False
  | .call f xs => match f.ev env with
    | .fn (.func F) first cap => ACalls P F (first ++ xs.map (Opd.ev env) ++ cap) H fun r H' =>
      match r with
      | .ret v => K v H'
      | .pan pv => Kp pv H'
    | _ => False
  | .bsl own e sz n z ps =>
    (partsOk ((List.replicate n z).map AV.size) (ps.map fun p => (p.1, p.2.ev env))) ∧
    match own with
    | false => K (.list sz (setAll (List.replicate n z) (ps.map fun p => (p.1, p.2.ev env)))) H
    | true => ∀ b, H b = none → K (.own sz (setAll (List.replicate n z) (ps.map fun p => (p.1, p.2.ev env))) b) (H.set b (.row n sz e))
  | .app e sz by_ s x => match (x.ev env).asList with
    | some (s2, xs) => (xs = [] ∨ s2 = sz) ∧
      match s.ev env with
      | .own s1 l b => (s1 = sz ∧ H b = some (.row l.length sz e) ∧ (l.length + xs.length) * by_ ≤ 140737488355328) ∧
        ∀ b', (b' = b ∨ H b' = none) → K (.own sz (l ++ xs) b') ((H.del b).set b' (.row (l.length + xs.length) sz e))
      | .nils => xs.length * by_ ≤ 140737488355328 ∧ (xs = [] → K .nils H) ∧ (xs ≠ [] → ∀ b, H b = none → K (.own sz xs b) (H.set b (.row xs.length sz e)))
      | _ => False
    | none => False
  | .pan x => match x.ev env with
    | .iface t (.int kd n) => Kp (.iface t (.int kd n)) H
    | _ => False
  | .s2b x => match x.ev env with
    | .str s => K (.list 1 (s.map fun b => .int .u8 (b.toNat : Int))) H
    | _ => False
  | .mkm => ∀ b, H b = none → K (.mapp b) (H.set b (.mp []))
  | .mpl x y => match x.ev env, y.ev env with
    | .mapp b, .str s => match H b with
      | some (.mp l) => K (.tuple [.struct [], .bool (l.contains s)]) H
      | _ => False
    | _, _ => False
  | .mpu m y x => match m.ev env, y.ev env, x.ev env with
    | .mapp b, .str s, .struct [] => match H b with
      | some (.mp l) => l.contains s = false ∧ K .undef (H.set b (.mp (l ++ [s])))
      | _ => False
    | _, _, _ => False
  | op => aval H env op fun v => K v H

theorem aval_mono {H : AHeap} {env : Env} {op : AOp} {k k' : AV → Prop} (hk : ∀ v, k v → k' v) (h : aval H env op k) : aval H env op k' := by
  have hi : ∀ o kd a b, ibin o kd a b k → ibin o kd a b k' := by
    intro o kd a b h
    cases o <;> simp only [ibin] at h ⊢ <;> first | exact hk _ h | exact ⟨h.1, hk _ h.2⟩
  have hs : ∀ o a b, sbin o a b k → sbin o a b k' := by
    intro o a b h
    cases o <;> simp only [sbin] at h ⊢ <;> first | exact hk _ h | exact ⟨h.1, hk _ h.2⟩
  have hl : ∀ n lo hi (g g' : Nat → Nat → Prop), (∀ a b, g a b → g' a b) → lohi env n lo hi g → lohi env n lo hi g' := by
    intro n lo hi g g' hg h
    unfold lohi at h ⊢
    split at h
    · exact ⟨h.1, hg _ _ h.2⟩
    · exact h.elim
  cases op <;> simp only [aval] at h ⊢
  case mov => exact hk _ h
  case pick => split at h <;> first | exact h.elim | exact hk _ h
  case ld =>
    split at h
    · exact ⟨h.1, hk _ h.2⟩
    · split at h
      · obtain ⟨v, h1, h2, h3⟩ := h; exact ⟨v, h1, h2, hk _ h3⟩
      · exact h.elim
    · exact h.elim
  case nilc => split at h <;> first | exact h.elim | (exact hk _ h)
  case bin =>
    split at h
    · split at h
      · rename_i e; rw [if_pos e]; exact ⟨h.1, hk _ h.2⟩
      · rename_i e; rw [if_neg e]; exact ⟨h.1, hi _ _ _ _ h.2⟩
    · exact hs _ _ _ h
    · exact h.elim
  case beq => split at h <;> first | exact h.elim | (exact hk _ h)
  case ieqn => split at h <;> first | exact h.elim | (exact hk _ h)
  case not => split at h <;> first | exact h.elim | (exact hk _ h)
  case conv => split at h <;> first | exact h.elim | (exact hk _ h)
  case neg => split at h <;> first | exact h.elim | (exact hk _ h)
  case i2s => split at h <;> first | exact h.elim | (exact hk _ h)
  case b2s => split at h <;> first | exact h.elim | (obtain ⟨v, h1, h2⟩ := h; exact ⟨v, h1, hk _ h2⟩)
  case fa => split at h <;> first | exact h.elim | (exact hk _ h) | (obtain ⟨v, h1, h2, h3⟩ := h; exact ⟨v, h1, h2, hk _ h3⟩)
  case fld => split at h <;> first | exact h.elim | (obtain ⟨v, h1, h2, h3⟩ := h; exact ⟨v, h1, h2, hk _ h3⟩)
  case ixa => split at h <;> first | exact h.elim | (obtain ⟨h0, v, h1, h2⟩ := h; exact ⟨h0, v, h1, hk _ h2⟩)
  case ix => split at h <;> first | exact h.elim | (obtain ⟨h0, v, h1, h2⟩ := h; exact ⟨h0, v, h1, hk _ h2⟩)
  case sls => split at h <;> first | exact h.elim | (exact hl _ _ _ _ _ (fun a b hab => hk _ hab) h)
  case sll => split at h <;> first | exact h.elim | (exact ⟨h.1, hl _ _ _ _ _ (fun a b hab => hk _ hab) h.2⟩)
  case lenl => split at h <;> first | exact h.elim | (exact fun hh => hk _ (h hh))
  case lens => split at h <;> first | exact h.elim | (exact fun hh => hk _ (h hh))
  case mn => split at h <;> first | exact h.elim | (exact ⟨h.1, hk _ h.2⟩)
  case mx => split at h <;> first | exact h.elim | (exact ⟨h.1, hk _ h.2⟩)
  case build => exact ⟨h.1, hk _ h.2⟩
  case ext => split at h <;> first | exact h.elim | (obtain ⟨v, h1, h2⟩ := h; exact ⟨v, h1, hk _ h2⟩)
  case mkfn => exact ⟨h.1, hk _ h.2⟩
  case mkif => exact ⟨h.1, hk _ h.2⟩
  case tas => split at h <;> first | exact h.elim | (exact ⟨h.1, hk _ h.2⟩)
  all_goals exact h.elim
end Go.Av

namespace Go.Av

theorem valAgg_false {u : Value} (h : valAgg u = false) : u.cells = #[u] := by cases u <;> first | rfl | cases h

theorem Rep1.scalar {c : Cx} {v : AV} {u : Value} (h : Rep1 c v u) (hv : v.isAgg = false) : RepC c v [u] := by
  have := h.1
  rw [valAgg_false (by rw [← h.2]; exact hv)] at this
  exact this

theorem Rep1.agg {c : Cx} {fs : List AV} {u : Value} (h : Rep1 c (.struct fs) u) : ∃ cs : Array Value, u = .agg cs ∧ RepC c (.struct fs) cs.toList := by
  obtain ⟨h1, h2⟩ := h
  cases u <;> first | exact ⟨_, rfl, h1⟩ | cases h2

theorem Rep1.of_scalar {c : Cx} {v : AV} {u : Value} (h : RepC c v [u]) (hv : v.isAgg = false) (hu : valAgg u = false) : Rep1 c v u :=
  ⟨by rw [valAgg_false hu]; exact h, by rw [hv, hu]⟩

theorem RepC.single {c : Cx} {v : AV} {cs : List Value} (h : RepC c v cs) (hv : v.isAgg = false) : ∃ u, cs = [u] ∧ valAgg u = false := by
  cases h <;> first | exact ⟨_, rfl, rfl⟩ | cases hv

theorem RepV.int {c : Cx} {k : IntKind} {n : Int} {u : Value} (h : RepV c (.int k n) u) : u = .int k n := by
  have h1 := (h.one rfl).scalar rfl
  cases h1; rfl
theorem RepV.bool {c : Cx} {b : Bool} {u : Value} (h : RepV c (.bool b) u) : u = .bool b := by
  have h1 := (h.one rfl).scalar rfl
  cases h1; rfl
theorem RepV.str {c : Cx} {s : List UInt8} {u : Value} (h : RepV c (.str s) u) : u = .string ⟨s.toArray⟩ ∧ s.length ≤ maxLen := by
  have h1 := (h.one rfl).scalar rfl
  cases h1; exact ⟨rfl, by assumption⟩
theorem RepV.ptr {c : Cx} {b off : Nat} {p : List Nat} {u : Value} (h : RepV c (.ptr b off p) u) : u = .pointer (some ⟨b, off, none⟩) := by
  have h1 := (h.one rfl).scalar rfl
  cases h1; rfl
theorem RepV.view {c : Cx} {v : AV} {u : Value} (h : RepV c (.view v) u) : ∃ ad cs, u = .pointer (some ad) ∧ RepC c v cs ∧ ∀ (i : Nat) (x : Value), cs[i]? = some x → c.rd (ad.add i) x := by
  have h1 := (h.one rfl).scalar rfl
  cases h1
  exact ⟨_, _, rfl, by assumption, by assumption⟩
theorem RepV.iface {c : Cx} {t : TypeId} {v : AV} {u : Value} (h : RepV c (.iface t v) u) : ∃ x, u = .iface t x ∧ Rep1 c v x := by
  have h1 := (h.one rfl).scalar rfl
  cases h1
  exact ⟨_, rfl, by assumption, by assumption⟩
theorem RepV.nili {c : Cx} {u : Value} (h : RepV c .nili u) : u = .nilIface := by
  have h1 := (h.one rfl).scalar rfl
  cases h1; rfl
theorem RepV.fn {c : Cx} {f : Fn} {l1 l2 : List AV} {u : Value} (h : RepV c (.fn f l1 l2) u) : ∃ u1 u2 : List Value, u = .func f u1.toArray u2.toArray ∧ u1.length = l1.length ∧ u2.length = l2.length ∧
    (∀ (j : Nat) (v : AV) (x : Value), l1[j]? = some v → u1[j]? = some x → Rep1 c v x) ∧ (∀ (j : Nat) (v : AV) (x : Value), l2[j]? = some v → u2[j]? = some x → Rep1 c v x) := by
  have h1 := (h.one rfl).scalar rfl
  cases h1 with
  | fn a1 a2 r1 b1 r2 b2 => exact ⟨_, _, rfl, a1, a2, fun j v x hv hx => ⟨r1 j v x hv hx, b1 j v x hv hx⟩, fun j v x hv hx => ⟨r2 j v x hv hx, b2 j v x hv hx⟩⟩
theorem RepV.tuple {c : Cx} {l : List AV} {u : Value} (h : RepV c (.tuple l) u) : ∃ us : List Value, u = .tuple us.toArray ∧ us.length = l.length ∧ ∀ (j : Nat) (x : AV) (y : Value), l[j]? = some x → us[j]? = some y → Rep1 c x y := by
  rcases h with h | h | ⟨l', us, e1, e2, e3, e4⟩
  · cases h
  · have h1 := h.scalar rfl
    cases h1
  · injection e1 with e1
    subst e1
    exact ⟨us, e2, e3, e4⟩

/-- What a slice's value is that bears a list: where its elements' cells lie. -/
def ListAt (c : Cx) (sz : Nat) (l : List AV) (A : Option Addr) (cap : Nat) : Prop :=
  l.length ≤ cap ∧ cap ≤ maxLen ∧ ∃ css : Nat → List Value, (∀ j v, l[j]? = some v → RepC c v (css j)) ∧ (∀ j, j < l.length → (css j).length = sz) ∧
    ∀ j i u, j < l.length → (css j)[i]? = some u → ∃ ad, A = some ad ∧ c.rd (ad.add (j * sz + i)) u

theorem ListAt.nil (c : Cx) (sz : Nat) (A : Option Addr) (cap : Nat) (h : cap ≤ maxLen) : ListAt c sz [] A cap :=
  ⟨Nat.zero_le _, h, fun _ => [], fun j v hv => by simp at hv, fun j hj => by simp at hj, fun j i u hj => by simp at hj⟩

theorem RepV.asList {c : Cx} {v : AV} {sz : Nat} {l : List AV} {u : Value} (h : RepV c v u) (hl : v.asList = some (sz, l)) : ∃ A cap, u = .slice A l.length cap ∧ ListAt c sz l A cap := by
  cases v <;> simp only [AV.asList, Option.some.injEq, Prod.mk.injEq, reduceCtorEq] at hl
  · obtain ⟨rfl, rfl⟩ := hl
    have h1 := (h.one rfl).scalar rfl
    cases h1 with
    | list css hc hm hr hs ha => exact ⟨_, _, rfl, hc, hm, css, hr, hs, ha⟩
  · obtain ⟨rfl, rfl⟩ := hl
    have h1 := (h.one rfl).scalar rfl
    cases h1 with
    | own css hc hm hr hs ha => exact ⟨_, _, rfl, hc, hm, css, hr, hs, ha⟩
  · obtain ⟨rfl, rfl⟩ := hl
    have h1 := (h.one rfl).scalar rfl
    cases h1
    exact ⟨none, 0, rfl, ListAt.nil c 0 none 0 (Nat.zero_le _)⟩

theorem ListAt.repC {c : Cx} {sz : Nat} {l : List AV} {A : Option Addr} {cap : Nat} (h : ListAt c sz l A cap) : RepC c (.list sz l) [.slice A l.length cap] := by
  obtain ⟨h1, h2, css, h3, h4, h5⟩ := h
  exact .list css h1 h2 h3 h4 h5

theorem ListAt.repV {c : Cx} {sz : Nat} {l : List AV} {A : Option Addr} {cap : Nat} (h : ListAt c sz l A cap) : RepV c (.list sz l) (.slice A l.length cap) :=
  (Rep1.of_scalar h.repC rfl rfl).v

theorem RepC.of_asList {c : Cx} {v : AV} {sz : Nat} {l : List AV} {A : Option Addr} {n cap : Nat} (h : RepC c v [.slice A n cap]) (hl : v.asList = some (sz, l)) : n = l.length ∧ ListAt c sz l A cap := by
  cases v <;> simp only [AV.asList, Option.some.injEq, Prod.mk.injEq, reduceCtorEq] at hl
  · obtain ⟨rfl, rfl⟩ := hl
    cases h with
    | list css hc hm hr hs ha => exact ⟨rfl, hc, hm, css, hr, hs, ha⟩
  · obtain ⟨rfl, rfl⟩ := hl
    cases h with
    | own css hc hm hr hs ha => exact ⟨rfl, hc, hm, css, hr, hs, ha⟩
  · obtain ⟨rfl, rfl⟩ := hl
    cases h
    exact ⟨rfl, ListAt.nil c 0 none 0 (Nat.zero_le _)⟩

/-- The cells of an element. -/
theorem ListAt.elem {c : Cx} {sz : Nat} {l : List AV} {A : Option Addr} {cap : Nat} (h : ListAt c sz l A cap) {j : Nat} {v : AV} (hv : l[j]? = some v) :
    ∃ cs, RepC c v cs ∧ cs.length = sz ∧ ∀ (i : Nat) (u : Value), cs[i]? = some u → ∃ ad, A = some ad ∧ c.rd (ad.add (j * sz + i)) u := by
  obtain ⟨_, _, css, h3, h4, h5⟩ := h
  have hj := (List.getElem?_eq_some_iff.1 hv).1
  exact ⟨css j, h3 j v hv, h4 j hj, fun i u hu => h5 j i u hj hu⟩

theorem add_add' (a : Addr) (i j : Nat) : (a.add i).add j = a.add (i + j) := by
  unfold Addr.add
  by_cases hi : i = 0 <;> by_cases hj : j = 0 <;> simp [hi, hj, Nat.add_assoc]

theorem ListAt.extract {c : Cx} {sz : Nat} {l : List AV} {A : Option Addr} {cap a b m : Nat} (h : ListAt c sz l A cap) (hab : a ≤ b) (hb : b ≤ l.length) (hm : b - a ≤ m) (hm2 : m ≤ maxLen) (B : Option Addr)
    (hB : a < b → B = A.map (·.add (a * sz))) : ListAt c sz ((l.take b).drop a) B m := by
  obtain ⟨h1, h2, css, h3, h4, h5⟩ := h
  have hlen : ((l.take b).drop a).length = b - a := by simp; omega
  refine ⟨by rw [hlen]; exact hm, hm2, fun j => css (a + j), fun j v hv => ?_, fun j hj => h4 _ (by rw [hlen] at hj; omega), fun j i u hj hu => ?_⟩
  · rw [List.getElem?_drop, List.getElem?_take] at hv
    split at hv
    · exact h3 _ _ hv
    · cases hv
  · rw [hlen] at hj
    obtain ⟨ad, e, hr⟩ := h5 (a + j) i u (by omega) hu
    subst e
    refine ⟨ad.add (a * sz), by rw [hB (by omega)]; rfl, ?_⟩
    rw [add_add']
    have e2 : a * sz + (j * sz + i) = (a + j) * sz + i := by rw [Nat.add_mul]; omega
    rw [e2]
    exact hr

/-! ### Constants -/

theorem ofConst_rep {v : Value} {a : AV} (h : ofConst v = some a) (c : Cx) : Rep1 c a v ∧ a.sto = true ∧ a.isAgg = false := by
  unfold ofConst at h
  split at h
  · injection h with h; subst h; exact ⟨Rep1.of_scalar (.bool _) rfl rfl, rfl, rfl⟩
  · injection h with h; subst h; exact ⟨Rep1.of_scalar (.int _ _) rfl rfl, rfl, rfl⟩
  · split at h
    · rename_i s hs
      injection h with h
      subst h
      refine ⟨Rep1.of_scalar ?_ rfl rfl, rfl, rfl⟩
      have := RepC.str (c := c) s.data.toList (by simp only [maxLen]; omega)
      simpa using this
    · cases h
  · injection h with h; subst h
    exact ⟨Rep1.of_scalar .nils rfl rfl, rfl, rfl⟩
  · injection h with h; subst h; exact ⟨Rep1.of_scalar .nilp rfl rfl, rfl, rfl⟩
  · injection h with h; subst h; exact ⟨Rep1.of_scalar .nilf rfl rfl, rfl, rfl⟩
  · injection h with h; subst h; exact ⟨Rep1.of_scalar .nili rfl rfl, rfl, rfl⟩
  · cases h

instance : Inhabited Cx := ⟨⟨0, fun _ => 0, default, fun _ => none, ([], [])⟩⟩

theorem readZs_rep {rd : TypeId → List Value → Option (AV × List Value)} (hrd : ∀ t cs v r, rd t cs = some (v, r) → v.sto = true ∧ ∃ pre, cs = pre ++ r ∧ ∀ c, RepC c v pre) :
    ∀ (ts : List TypeId) (cs : List Value) (l : List AV) (r : List Value), readZs rd ts cs = some (l, r) → (∀ v ∈ l, v.sto = true) ∧ l.length = ts.length ∧ ∃ pre, cs = pre ++ r ∧ ∀ c, RepC c (.struct l) pre
  | [], cs, l, r, h => by
    simp only [readZs, Option.some.injEq, Prod.mk.injEq] at h
    obtain ⟨rfl, rfl⟩ := h
    exact ⟨fun v hv => (by cases hv), rfl, [], rfl, fun _ => .snil⟩
  | t :: ts, cs, l, r, h => by
    simp only [readZs] at h
    split at h
    · rename_i v r1 h1
      split at h
      · rename_i vs r2 h2
        simp only [Option.some.injEq, Prod.mk.injEq] at h
        obtain ⟨rfl, rfl⟩ := h
        obtain ⟨s1, p1, rfl, q1⟩ := hrd _ _ _ _ h1
        obtain ⟨s2, hl, p2, rfl, q2⟩ := readZs_rep hrd ts _ _ _ h2
        refine ⟨fun x hx => ?_, by simp [hl], p1 ++ p2, by simp, fun c => .scons (q1 c) (q2 c)⟩
        rcases List.mem_cons.1 hx with rfl | hx
        · exact s1
        · exact s2 x hx
      · cases h
    · cases h

theorem readZ_rep {P : Program} : ∀ (n : Nat) (t : TypeId) (cs : List Value) (v : AV) (r : List Value), readZ P n t cs = some (v, r) → v.sto = true ∧ ∃ pre, cs = pre ++ r ∧ ∀ c, RepC c v pre
  | 0, t, cs, v, r, h => by simp [readZ] at h
  | n + 1, t, cs, v, r, h => by
    simp only [readZ] at h
    split at h
    · split at h
      · rename_i l r2 h2
        simp only [Option.some.injEq, Prod.mk.injEq] at h
        obtain ⟨rfl, rfl⟩ := h
        obtain ⟨_, _, p, e, q⟩ := readZs_rep (fun t cs v r => readZ_rep n t cs v r) _ _ _ _ h2
        exact ⟨rfl, p, e, q⟩
      · cases h
    · cases h
    · split at h
      · split at h
        · rename_i ha
          simp only [Option.some.injEq, Prod.mk.injEq] at h
          obtain ⟨rfl, rfl⟩ := h
          exact ⟨(ofConst_rep ha default).2.1, [_], rfl, fun c => (ofConst_rep ha c).1.scalar (ofConst_rep ha c).2.2⟩
        · cases h
      · cases h
    · cases h

theorem zeroAV_rep {P : Program} {t : TypeId} {v : AV} (h : zeroAV P t = some v) : v.sto = true ∧ ∃ i z, P.info? t = some i ∧ i.zero = some z ∧ ∀ c, Rep1 c v z := by
  unfold zeroAV at h
  cases hi : P.info? t with
  | none => rw [hi] at h; cases h
  | some i =>
    rw [hi] at h
    simp only [Option.bind_some] at h
    cases hz : i.zero with
    | none => rw [hz] at h; cases h
    | some z =>
      rw [hz] at h
      simp only at h
      cases hr : readZ P 20 t z.cells.toList with
      | none => rw [hr] at h; cases h
      | some p =>
        obtain ⟨v', r⟩ := p
        rw [hr] at h
        cases r with
        | cons x r => cases h
        | nil =>
          simp only at h
          by_cases hag : valAgg z = v'.isAgg
          · rw [if_pos hag] at h
            injection h with h
            subst h
            obtain ⟨hs, p, e, q⟩ := readZ_rep _ _ _ _ _ hr
            refine ⟨hs, i, z, rfl, hz, fun c => ⟨?_, ?_⟩⟩
            · rw [List.append_nil] at e
              rw [e]; exact q c
            · exact hag.symm
          · rw [if_neg hag] at h; cases h

theorem compOpd_rep {x : Operand} {y : Opd} (h : compOpd x = some y) {c : Cx} {n : Nat} {env : Env} {a : Act} (hs : RS c n env a) : RepV c (y.ev env) (a.eval x) := by
  cases x with
  | tmp t => simp only [compOpd, Option.some.injEq] at h; subst h; exact hs.rep t
  | const v =>
    simp only [compOpd, Option.map_eq_some_iff] at h
    obtain ⟨w, hw, rfl⟩ := h
    exact (ofConst_rep hw c).1.v
  | func f =>
    simp only [compOpd, Option.some.injEq] at h
    subst h
    refine (Rep1.of_scalar ?_ rfl rfl).v
    exact RepC.fn (u1 := []) (u2 := []) rfl rfl (by intro j v u h; simp at h) (by intro j v u h; simp at h) (by intro j v u h; simp at h) (by intro j v u h; simp at h)
  | global g => cases h

theorem compOpds_rep : ∀ {xs : List Operand} {ys : List Opd}, compOpds xs = some ys → ∀ {c : Cx} {n : Nat} {env : Env} {a : Act}, RS c n env a →
    xs.length = ys.length ∧ ∀ (j : Nat) (v : AV) (u : Value), (ys.map (Opd.ev env))[j]? = some v → (xs.map a.eval)[j]? = some u → RepV c v u
  | [], ys, h, c, n, env, a, hs => by
    simp only [compOpds, Option.some.injEq] at h
    subst h
    exact ⟨rfl, fun j v u hv => by simp at hv⟩
  | x :: xs, ys, h, c, n, env, a, hs => by
    simp only [compOpds] at h
    split at h
    · rename_i y ys' h1 h2
      simp only [Option.some.injEq] at h
      subst h
      obtain ⟨e1, e2⟩ := compOpds_rep h2 hs
      refine ⟨by simp [e1], fun j v u hv hu => ?_⟩
      cases j with
      | zero =>
        simp only [List.map_cons, List.getElem?_cons_zero, Option.some.injEq] at hv hu
        subst hv hu
        exact compOpd_rep h1 hs
      | succ j =>
        simp only [List.map_cons, List.getElem?_cons_succ] at hv hu
        exact e2 j v u hv hu
    · cases h

/-! ### Parts of a struct, of a variable -/

theorem field_part {c : Cx} : ∀ {fs : List AV} {cs : List Value}, RepC c (.struct fs) cs → ∀ {i : Nat} {f : AV}, fs[i]? = some f →
    ∃ pre mid post, cs = pre ++ mid ++ post ∧ pre.length = AV.sizes (fs.take i) ∧ RepC c f mid ∧
      ∀ d : Cx, c.Le d → ∀ (v : AV) (mid' : List Value), RepC d v mid' → RepC d (.struct (fs.set i v)) (pre ++ mid' ++ post)
  | [], cs, h, i, f, hf => by simp at hf
  | x :: fs, cs, h, i, f, hf => by
    cases h with
    | scons h1 h2 =>
      rename_i c1 c2
      cases i with
      | zero =>
        simp only [List.getElem?_cons_zero, Option.some.injEq] at hf
        subst hf
        refine ⟨[], c1, c2, by simp, by simp [AV.sizes], h1, fun d hd v mid' hv => ?_⟩
        simp only [List.set_cons_zero, List.nil_append]
        exact .scons hv (h2.mono hd)
      | succ i =>
        simp only [List.getElem?_cons_succ] at hf
        obtain ⟨pre, mid, post, rfl, e2, e3, e4⟩ := field_part h2 hf
        refine ⟨c1 ++ pre, mid, post, by simp [List.append_assoc], ?_, e3, fun d hd v mid' hv => ?_⟩
        · simp only [List.length_append, List.take_succ_cons, AV.sizes, e2, h1.length]
        · simp only [List.set_cons_succ]
          have := RepC.scons (h1.mono hd) (e4 d hd v mid' hv)
          simpa [List.append_assoc] using this

theorem path_part {c : Cx} : ∀ (p : List Nat) {v : AV} {cs : List Value}, RepC c v cs → ∀ {x : AV}, v.at_ p = some x →
    ∃ pre mid post, cs = pre ++ mid ++ post ∧ pre.length = v.offs p ∧ RepC c x mid ∧
      ∀ d : Cx, c.Le d → ∀ (y : AV) (mid' : List Value), RepC d y mid' → RepC d (v.put p y) (pre ++ mid' ++ post)
  | [], v, cs, h, x, hx => by
    have e : v.at_ [] = some v := by cases v <;> rfl
    rw [e] at hx
    simp only [Option.some.injEq] at hx
    subst hx
    have e2 : v.offs [] = 0 := by cases v <;> rfl
    have e3 : ∀ y, v.put [] y = y := fun y => by cases v <;> rfl
    exact ⟨[], cs, [], by simp, by rw [e2]; rfl, h, fun d hd y mid' hy => by rw [e3]; simpa using hy⟩
  | i :: p, v, cs, h, x, hx => by
    cases v <;> simp only [AV.at_, reduceCtorEq] at hx
    rename_i fs
    split at hx
    · rename_i f hf
      obtain ⟨pre, mid, post, rfl, e2, e3, e4⟩ := field_part h hf
      obtain ⟨pre', mid', post', rfl, g2, g3, g4⟩ := path_part p e3 hx
      refine ⟨pre ++ pre', mid', post' ++ post, by simp [List.append_assoc], by simp [AV.offs, hf, e2, g2], g3, fun d hd y m hy => ?_⟩
      have := e4 d hd _ _ (g4 d hd y m hy)
      simp only [AV.put, hf]
      simpa [List.append_assoc] using this
    · cases hx
end Go.Av

namespace Go.Av

theorem aggOf_run {P : Program} {t : TypeId} {g : Bool} (h : aggOf P t = some g) (w : World) : (isAgg t).run P w = .ok g w := by
  unfold aggOf at h
  rw [Option.map_eq_some_iff] at h
  obtain ⟨d, hd, hg⟩ := h
  unfold isAgg
  rw [Sem.run_bind, run_underlying hd w]
  subst hg
  cases d <;> rfl

theorem szOf_run {P : Program} {t : TypeId} {s : Nat} (h : szOf P t = some s) (w : World) : (sizeOf t).run P w = .ok s w := by
  unfold szOf at h
  rw [Option.map_eq_some_iff] at h
  obtain ⟨i, hi, hs⟩ := h
  simp [sizeOf, typeInfo, hi, hs]

theorem run_loadAt_rep {P : Program} {w : World} {t : TypeId} {ad : Addr} {cs : List Value} {c : Cx} {v : AV} (hr : RepC c v cs) (hcells : ∀ (i : Nat) (u : Value), cs[i]? = some u → w.cell? (ad.add i) = some u)
    (hag : aggOf P t = some v.isAgg) (hsz : szOf P t = some v.size) : ∃ u, (Instr.loadAt t (.pointer (some ad))).run P w = .ok u w ∧ Rep1 c v u := by
  have hl : (loadCells ad v.size).run P w = .ok cs.toArray w := by rw [← hr.length]; exact run_loadCells_list w ad cs hcells
  cases hg : v.isAgg with
  | true =>
    rw [hg] at hag
    refine ⟨.agg cs.toArray, ?_, by simpa [Value.cells] using hr, by rw [hg]; rfl⟩
    simp [Instr.loadAt, Instr.sureAddr, loadVar, aggOf_run hag, szOf_run hsz, hl]
  | false =>
    rw [hg] at hag
    obtain ⟨u, rfl, hu⟩ := hr.single hg
    refine ⟨u, ?_, Rep1.of_scalar hr hg hu⟩
    have := hcells 0 u rfl
    rw [Addr.add_zero'] at this
    simp [Instr.loadAt, Instr.sureAddr, loadVar, aggOf_run hag, this]

theorem RH.boxCells {c : Cx} (hh : RH c) {b : Nat} {v : AV} (hb : c.H b = some (.box v)) : ∃ cs : Array Value, ∃ e, c.w.heap[b]? = some (.cells cs e (0, 0)) ∧ RepC c v cs.toList ∧ ∀ (i : Nat) (u : Value), cs.toList[i]? = some u → c.w.cell? ⟨b, i, none⟩ = some u := by
  obtain ⟨_, cs, e, h1, h2⟩ := hh.box b v hb
  exact ⟨cs, e, h1, h2, fun i u hu => by simpa [World.cell?, h1] using hu⟩


theorem run_getElem?_bytes (s : List UInt8) (i : Nat) : (⟨s.toArray⟩ : ByteArray)[i]? = s[i]? := by
  show (if h : i < s.toArray.size then some s.toArray[i] else none) = _
  by_cases h : i < s.length <;> simp [h]

theorem size_mk (s : List UInt8) : (⟨s.toArray⟩ : ByteArray).size = s.length := by simp [ByteArray.size]

theorem append_mk (a b : List UInt8) : (⟨a.toArray⟩ : ByteArray) ++ ⟨b.toArray⟩ = ⟨(a ++ b).toArray⟩ := by
  apply ByteArray.ext
  rw [ByteArray.data_append]
  simp

theorem extract_mk (s : List UInt8) (l h : Nat) (hl : l ≤ h) (hh : h ≤ s.length) : (⟨s.toArray⟩ : ByteArray).extract l h = ⟨((s.take h).drop l).toArray⟩ := by
  apply ByteArray.ext
  rw [ByteArray.data_extract]
  rw [List.drop_take]
  simp [List.extract_eq_take_drop]

theorem stepOptOpd {x : Option Operand} {y : Option Opd} (h : compOptOpd x = some y) : (x = none ∧ y = none) ∨ ∃ a b, x = some a ∧ y = some b ∧ compOpd a = some b := by
  cases x with
  | none => simp only [compOptOpd, Option.some.injEq] at h; exact .inl ⟨rfl, h.symm⟩
  | some a =>
    simp only [compOptOpd, Option.map_eq_some_iff] at h
    obtain ⟨b, hb, rfl⟩ := h
    exact .inr ⟨a, b, rfl, rfl, hb⟩

/-- The two bounds of a slice expression. -/
theorem lohi_run {P : Program} {c : Cx} {n : Nat} {env : Env} {a : Act} (hs : RS c n env a) {lo hi : Option Operand} {lo' hi' : Option Opd} (h1 : compOptOpd lo = some lo') (h2 : compOptOpd hi = some hi')
    {len cap : Nat} (hcap : len ≤ cap) (isS : Bool) {k : Nat → Nat → Prop} (h : lohi env len lo' hi' k) (w : World) :
    ∃ x y, x ≤ y ∧ y ≤ len ∧ (Instr.sliceBounds isS len cap (lo.map a.eval) (hi.map a.eval) none).run P w = .ok (x, y, cap) w ∧ k x y := by
  have key : ∀ {z : Operand} {z' : Opd} {m : Int}, compOpd z = some z' → (z'.ev env).asInt = some m → ∃ kd, a.eval z = .int kd m := by
    intro z z' m hz hm
    have hr := compOpd_rep hz hs
    cases hv : z'.ev env <;> rw [hv] at hm <;> simp only [AV.asInt, Option.some.injEq, reduceCtorEq] at hm
    subst hm
    rw [hv] at hr
    exact ⟨_, hr.int⟩
  unfold lohi at h
  split at h
  · rename_i l hh e1 e2
    obtain ⟨⟨b1, b2, b3⟩, hk⟩ := h
    refine ⟨l.toNat, hh.toNat, by omega, by omega, ?_, hk⟩
    rcases stepOptOpd h1 with ⟨rfl, rfl⟩ | ⟨x, x', rfl, rfl, hx⟩
    · simp only [Option.some.injEq] at e1
      subst e1
      rcases stepOptOpd h2 with ⟨rfl, rfl⟩ | ⟨y, y', rfl, rfl, hy⟩
      · simp only [Option.some.injEq] at e2
        subst e2
        simp [Instr.sliceBounds]
      · obtain ⟨kd, hkd⟩ := key hy e2
        simp only [Instr.sliceBounds, Option.map_none, Option.map_some, hkd]
        simp [Instr.sliceBound, asIntOf, b2, show hh ≤ (cap : Int) by omega]
    · obtain ⟨kd, hkd⟩ := key hx e1
      rcases stepOptOpd h2 with ⟨rfl, rfl⟩ | ⟨y, y', rfl, rfl, hy⟩
      · simp only [Option.some.injEq] at e2
        subst e2
        simp only [Instr.sliceBounds, Option.map_none, Option.map_some, hkd]
        simp [Instr.sliceBound, asIntOf, b1, b2]
      · obtain ⟨kd2, hkd2⟩ := key hy e2
        simp only [Instr.sliceBounds, Option.map_some, hkd, hkd2]
        have e0 : (0 : Int) ≤ hh := by omega
        have e3 : hh ≤ (cap : Int) := by omega
        have e4 : l ≤ ((hh.toNat : Nat) : Int) := by omega
        simp only [Instr.sliceBound, asIntOf, Sem.run_bind, Sem.run_pure, Result.andThen_ok, Sem.run_ite]
        simp only [b1, e0, e3, and_self, if_true, Sem.run_pure, Result.andThen_ok, e4, Option.isSome_none, Bool.false_eq_true, if_false]
  · exact h.elim

theorem ibin_run {P : Program} {w : World} (t : TypeId) (op : BinOp) (kd : IntKind) (x y : Int) {k : AV → Prop} (c : Cx) (hop : op ≠ .shr) (h : ibin op kd x y k) :
    ∃ v u, (binOp op t (.int kd x) (.int kd y)).run P w = .ok u w ∧ RepV c v u ∧ k v := by
  cases op <;> simp only [ibin] at h
  · exact ⟨_, _, by simp [Op.intArith, binOp], (Rep1.of_scalar (.int _ _) rfl rfl).v, h⟩
  · exact ⟨_, _, by simp [Op.intArith, binOp], (Rep1.of_scalar (.int _ _) rfl rfl).v, h⟩
  · exact ⟨_, _, by simp [Op.intArith, binOp], (Rep1.of_scalar (.int _ _) rfl rfl).v, h⟩
  · exact ⟨_, _, by simp [Op.intDiv, binOp, h.1], (Rep1.of_scalar (.int _ _) rfl rfl).v, h.2⟩
  · exact ⟨_, _, by simp [Op.intDiv, binOp, h.1], (Rep1.of_scalar (.int _ _) rfl rfl).v, h.2⟩
  all_goals first
    | exact h.elim
    | exact ⟨_, _, by simp [Op.intCmp, binOp], (Rep1.of_scalar (.bool _) rfl rfl).v, h⟩

theorem sbin_run {P : Program} {w : World} (t : TypeId) (op : BinOp) (x y : List UInt8) {k : AV → Prop} (c : Cx) (h : sbin op x y k) :
    ∃ v u, (binOp op t (.string ⟨x.toArray⟩) (.string ⟨y.toArray⟩)).run P w = .ok u w ∧ RepV c v u ∧ k v := by
  cases op <;> simp only [sbin] at h
  · refine ⟨.str (x ++ y), .string ⟨(x ++ y).toArray⟩, ?_, (Rep1.of_scalar (.str _ (by simpa using h.1)) rfl rfl).v, h.2⟩
    have := h.1
    simp only [maxLen] at this
    simp only [binOp, Op.stringOp, size_mk]
    rw [if_neg (by rw [IntKind.max_i64]; omega), append_mk]
    rfl
  all_goals first
    | exact h.elim
    | exact ⟨_, _, by simp [binOp, Op.stringOp], (Rep1.of_scalar (.bool _) rfl rfl).v, h⟩

theorem scalar_bool (c : Cx) (b : Bool) : RepV c (.bool b) (.bool b) := (Rep1.of_scalar (.bool _) rfl rfl).v
theorem scalar_int (c : Cx) (k : IntKind) (n : Int) : RepV c (.int k n) (.int k n) := (Rep1.of_scalar (.int _ _) rfl rfl).v

theorem RepV.unasInt {c : Cx} {v : AV} {n : Int} {u : Value} (h : RepV c v u) (hv : v.asInt = some n) : ∃ kd, u = .int kd n := by
  cases v <;> simp only [AV.asInt, Option.some.injEq, reduceCtorEq] at hv
  subst hv
  exact ⟨_, h.int⟩

theorem compParts_rep : ∀ {xs : List (Nat × Operand)} {ys : List (Nat × Opd)}, compParts xs = some ys → ∀ {c : Cx} {n : Nat} {env : Env} {a : Act}, RS c n env a →
    (xs.map fun p => (p.1, a.eval p.2)).length = ys.length ∧ ∀ (j : Nat) (p : Nat × AV) (q : Nat × Value), (ys.map fun p => (p.1, p.2.ev env))[j]? = some p → (xs.map fun p => (p.1, a.eval p.2))[j]? = some q → p.1 = q.1 ∧ RepV c p.2 q.2
  | [], ys, h, c, n, env, a, hs => by
    simp only [compParts, Option.some.injEq] at h
    subst h
    exact ⟨rfl, fun j v u hv => by simp at hv⟩
  | (i, x) :: xs, ys, h, c, n, env, a, hs => by
    simp only [compParts] at h
    split at h
    · rename_i y ys' h1 h2
      simp only [Option.some.injEq] at h
      subst h
      obtain ⟨e1, e2⟩ := compParts_rep h2 hs
      refine ⟨by simpa using e1, fun j v u hv hu => ?_⟩
      cases j with
      | zero =>
        simp only [List.map_cons, List.getElem?_cons_zero, Option.some.injEq] at hv hu
        subst hv hu
        exact ⟨rfl, compOpd_rep h1 hs⟩
      | succ j =>
        simp only [List.map_cons, List.getElem?_cons_succ] at hv hu
        exact e2 j v u hv hu
    · cases h

theorem splice_fold (pre mid post : List Value) : ∀ (new : List Value) (k : Nat) (cs : Array Value), cs.toList = pre ++ mid ++ post → new.length + k = mid.length →
    ((new.zipIdx k).foldl (fun (cs : Array Value) (p : Value × Nat) => cs.setIfInBounds (pre.length + p.2) p.1) cs).toList = pre ++ (mid.take k ++ new) ++ post
  | [], k, cs, h, hl => by
    have : mid.take k = mid := List.take_of_length_le (by simp at hl; omega)
    simp [h, this]
  | v :: new, k, cs, h, hl => by
    have hk : k < mid.length := by simp at hl; omega
    simp only [List.zipIdx_cons, List.foldl_cons]
    have e : (cs.setIfInBounds (pre.length + k) v).toList = pre ++ (mid.set k v) ++ post := by
      rw [Array.toList_setIfInBounds, h, List.append_assoc, List.append_assoc, List.set_append_right _ _ (by omega)]
      rw [show pre.length + k - pre.length = k from by omega, List.set_append_left _ _ hk]
    rw [splice_fold pre (mid.set k v) post new (k + 1) _ e (by simp at hl ⊢; omega)]
    congr 2
    rw [List.take_set, List.take_succ_eq_append_getElem hk]
    rw [List.set_append_right _ _ (by simp; omega)]
    have : k - (mid.take k).length = 0 := by simp; omega
    rw [this]
    simp

theorem sizes_congr : ∀ (l l' : List AV), l.map AV.size = l'.map AV.size → AV.sizes l = AV.sizes l'
  | [], [], _ => rfl
  | [], _ :: _, h => by simp at h
  | _ :: _, [], h => by simp at h
  | x :: l, y :: l', h => by
    simp only [List.map_cons, List.cons.injEq] at h
    simp only [AV.sizes, h.1, sizes_congr l l' h.2]

/-- 'fill', at a struct of abstract fields: each part comes to its place. -/
theorem fill_rep (place : Nat → Option (Nat × Nat)) : ∀ (ps : List (Nat × AV)) (qs : List (Nat × Value)) (zs : List AV) (cells : Array Value) (c : Cx),
    RepC c (.struct zs) cells.toList → qs.length = ps.length → (∀ (j : Nat) (p : Nat × AV) (q : Nat × Value), ps[j]? = some p → qs[j]? = some q → p.1 = q.1 ∧ RepV c p.2 q.2) →
    (∀ i, i < zs.length → place i = some (AV.sizes (zs.take i), (zs.map AV.size).getD i 0)) → partsOk (zs.map AV.size) ps →
    ∃ out : Array Value, Instr.fill place cells qs = some out ∧ RepC c (.struct (setAll zs ps)) out.toList
  | [], qs, zs, cells, c, h, hl, _, _, _ => by
    have : qs = [] := List.eq_nil_of_length_eq_zero hl
    subst this
    exact ⟨cells, rfl, h⟩
  | (i, v) :: ps, [], zs, cells, c, h, hl, _, _, _ => by simp at hl
  | (i, v) :: ps, (i', u) :: qs, zs, cells, c, h, hl, hr, hp, hok => by
    obtain ⟨e1, hru⟩ := hr 0 (i, v) (i', u) rfl rfl
    simp only at e1 hru
    subst e1
    obtain ⟨⟨hsz, hsto⟩, hok'⟩ := hok
    have hi : i < zs.length := by
      rcases Nat.lt_or_ge i zs.length with h' | h'
      · exact h'
      · rw [List.getElem?_eq_none (by simpa using h')] at hsz; cases hsz
    obtain ⟨pre, mid, post, ec, el, hm, hput⟩ := field_part h (List.getElem?_eq_getElem hi)
    have hv1 := hru.one hsto
    have hvl : u.cells.toList.length = v.size := hv1.1.length
    have hvl' : u.cells.size = v.size := by simpa using hvl
    have hz : (zs.map AV.size)[i]? = some (zs[i]).size := by simp [hi]
    have hsv : (zs[i]).size = v.size := by rw [hz] at hsz; simpa using hsz
    have hml : mid.length = v.size := by rw [hm.length, hsv]
    have hpl := hp i hi
    have hgd : (zs.map AV.size).getD i 0 = v.size := by rw [List.getD_eq_getElem?_getD, hz]; simpa using hsv
    rw [hgd] at hpl
    have hcs : cells.size = pre.length + mid.length + post.length := by rw [← Array.length_toList, ec]; simp; omega
    simp only [Instr.fill, hpl]
    rw [if_neg (by simp [hvl', hcs]; omega)]
    have hfold : ((u.cells.zipIdx).foldl (fun (cs : Array Value) (p : Value × Nat) => cs.setIfInBounds (AV.sizes (zs.take i) + p.2) p.1) cells).toList = pre ++ u.cells.toList ++ post := by
      have := splice_fold pre mid post u.cells.toList 0 cells ec (by rw [hvl, hml]; rfl)
      rw [el] at this
      simp only [List.take_zero, List.nil_append] at this
      rw [← this]
      congr 1
      rw [← Array.foldl_toList, Array.toList_zipIdx]
    have hrep : RepC c (.struct (zs.set i v)) ((u.cells.zipIdx).foldl (fun (cs : Array Value) (p : Value × Nat) => cs.setIfInBounds (AV.sizes (zs.take i) + p.2) p.1) cells).toList := by
      rw [hfold]
      exact hput c (Cx.Le.refl c) v _ hv1.1
    have hmap : (zs.set i v).map AV.size = zs.map AV.size := by
      apply List.ext_getElem?
      intro j
      simp only [List.getElem?_map, List.getElem?_set]
      by_cases hij : i = j
      · subst hij; simp [hi, hsv]
      · simp [hij]
    have hsizes : ∀ j, AV.sizes ((zs.set i v).take j) = AV.sizes (zs.take j) := by
      intro j
      apply sizes_congr
      rw [List.map_take, List.map_take, hmap]
    obtain ⟨out, ho1, ho2⟩ := fill_rep place ps qs (zs.set i v) _ c hrep (by simpa using hl) (fun j p q hp' hq' => hr (j + 1) p q hp' hq') (fun j hj => by rw [hsizes, hmap]; exact hp j (by simpa using hj)) (by rw [hmap]; exact hok')
    exact ⟨out, ho1, ho2⟩
end Go.Av
