/- Regions of drawn order: where no two unordered operations meet, the textual order serves. -/
import Derived.Test.YtpdbcfnmhicnbaaDoorAvD
set_option linter.unusedVariables false
set_option linter.unusedSimpArgs false
namespace Go.Av

def Opd.rd : Opd → List Nat
  | .t i => [i]
  | .c _ => []
def optRd : Option Opd → List Nat
  | none => []
  | some x => x.rd

def AOp.rd : AOp → List Nat
  | .mov x | .box x _ _ | .ld _ _ x | .nilc x | .ieqn _ x | .not x | .conv _ x | .b2s x | .fa _ _ x | .fld _ _ _ _ x | .lenl x | .lens x | .ext x _ | .mkif _ x | .tas _ x | .pan x | .neg x | .i2s x | .s2b x => x.rd
  | .pick c a b => c.rd ++ a.rd ++ b.rd
  | .alloc _ _ | .allb _ _ | .mkm => []
  | .st _ p x => p.rd ++ x.rd
  | .bin _ x y | .beq _ x y | .ixa _ x y | .ix x y | .mn x y | .mx x y | .app _ _ _ x y | .mpl x y => x.rd ++ y.rd
  | .mpu m y x => m.rd ++ y.rd ++ x.rd
  | .sls x lo hi | .sll _ x lo hi => x.rd ++ optRd lo ++ optRd hi
  | .call f xs => f.rd ++ xs.flatMap Opd.rd
  | .build _ ps | .bsl _ _ _ _ _ ps => ps.flatMap fun p => p.2.rd
  | .mkfn _ l1 l2 => l1.flatMap Opd.rd ++ l2.flatMap Opd.rd

theorem ev_congr {env env' : Env} {x : Opd} (h : ∀ s ∈ x.rd, env.get s = env'.get s) : x.ev env = x.ev env' := by
  cases x with
  | t i => exact h i (by simp [Opd.rd])
  | c v => rfl

theorem evs_congr {env env' : Env} {xs : List Opd} (h : ∀ s ∈ xs.flatMap Opd.rd, env.get s = env'.get s) : xs.map (Opd.ev env) = xs.map (Opd.ev env') := by
  refine List.map_congr_left fun x hx => ev_congr fun s hs => h s ?_
  simp only [List.mem_flatMap]
  exact ⟨x, hx, hs⟩

theorem evp_congr {env env' : Env} {ps : List (Nat × Opd)} (h : ∀ s ∈ ps.flatMap (fun p => p.2.rd), env.get s = env'.get s) : (ps.map fun p => (p.1, p.2.ev env)) = (ps.map fun p => (p.1, p.2.ev env')) := by
  refine List.map_congr_left fun x hx => ?_
  rw [ev_congr fun s hs => h s ?_]
  simp only [List.mem_flatMap]
  exact ⟨x, hx, hs⟩

theorem lohi_congr {env env' : Env} {n : Nat} {lo hi : Option Opd} {k : Nat → Nat → Prop} (h : ∀ s ∈ optRd lo ++ optRd hi, env.get s = env'.get s) : lohi env n lo hi k = lohi env' n lo hi k := by
  have h1 : ∀ s ∈ optRd lo, env.get s = env'.get s := fun s hs => h s (by simp [hs])
  have h2 : ∀ s ∈ optRd hi, env.get s = env'.get s := fun s hs => h s (by simp [hs])
  unfold lohi
  cases lo with
  | none => cases hi with
    | none => rfl
    | some y => simp only [ev_congr h2]
  | some x => cases hi with
    | none => simp only [ev_congr h1]
    | some y => simp only [ev_congr h1, ev_congr h2]

theorem aop_congr {P : Program} {H : AHeap} {env env' : Env} {op : AOp} {K : AV → AHeap → Prop} {Kp : Value → AHeap → Prop} (h : ∀ s ∈ op.rd, env.get s = env'.get s) : aop P H env op K Kp = aop P H env' op K Kp := by
  cases op <;> simp only [AOp.rd, List.mem_append] at h
  case pick c a b => simp only [aop, aval, ev_congr fun s hs => h s (.inl (.inl hs)), ev_congr fun s hs => h s (.inl (.inr hs)), ev_congr fun s hs => h s (.inr hs)]
  case alloc => rfl
  case allb => rfl
  case mkm => rfl
  case mpl => simp only [aop, aval, ev_congr fun s hs => h s (.inl hs), ev_congr fun s hs => h s (.inr hs)]
  case mpu => simp only [aop, aval, ev_congr fun s hs => h s (.inl (.inl hs)), ev_congr fun s hs => h s (.inl (.inr hs)), ev_congr fun s hs => h s (.inr hs)]
  case st => simp only [aop, aval, ev_congr fun s hs => h s (.inl hs), ev_congr fun s hs => h s (.inr hs)]
  case bin => simp only [aop, aval, ev_congr fun s hs => h s (.inl hs), ev_congr fun s hs => h s (.inr hs)]
  case beq => simp only [aop, aval, ev_congr fun s hs => h s (.inl hs), ev_congr fun s hs => h s (.inr hs)]
  case ixa => simp only [aop, aval, ev_congr fun s hs => h s (.inl hs), ev_congr fun s hs => h s (.inr hs)]
  case ix => simp only [aop, aval, ev_congr fun s hs => h s (.inl hs), ev_congr fun s hs => h s (.inr hs)]
  case mn => simp only [aop, aval, ev_congr fun s hs => h s (.inl hs), ev_congr fun s hs => h s (.inr hs)]
  case mx => simp only [aop, aval, ev_congr fun s hs => h s (.inl hs), ev_congr fun s hs => h s (.inr hs)]
  case app => simp only [aop, aval, ev_congr fun s hs => h s (.inl hs), ev_congr fun s hs => h s (.inr hs)]
  case sls =>
    simp only [aop, aval, ev_congr fun s hs => h s (.inl (.inl hs))]
    split
    · exact lohi_congr fun s hs => h s (by simpa [or_assoc] using Or.inr (List.mem_append.1 hs))
    · rfl
  case sll =>
    simp only [aop, aval, ev_congr fun s hs => h s (.inl (.inl hs))]
    split
    · rw [lohi_congr fun s hs => h s (by simpa [or_assoc] using Or.inr (List.mem_append.1 hs))]
    · rfl
  case call => simp only [aop, aval, ev_congr fun s hs => h s (.inl hs), evs_congr fun s hs => h s (.inr hs)]
  case build => simp only [aop, aval, evp_congr h]
  case bsl => simp only [aop, aval, evp_congr h]
  case mkfn f l1 l2 =>
    have e1 := evs_congr (xs := l1) fun s hs => h s (.inl hs)
    have e2 := evs_congr (xs := l2) fun s hs => h s (.inr hs)
    have e3 : ∀ x ∈ l1 ++ l2, x.ev env = x.ev env' := by
      intro x hx
      refine ev_congr fun s hs => ?_
      rcases List.mem_append.1 hx with hx | hx
      · exact h s (.inl (List.mem_flatMap.2 ⟨x, hx, hs⟩))
      · exact h s (.inr (List.mem_flatMap.2 ⟨x, hx, hs⟩))
    simp only [aop, aval, e1, e2]
    congr 1
    exact propext ⟨fun g x hx => by rw [← e3 x hx]; exact g x hx, fun g x hx => by rw [e3 x hx]; exact g x hx⟩
  all_goals simp only [aop, aval, ev_congr h]

/-- The operation comes to v, and leaves the heap alone. -/
def QOp (P : Program) (H : AHeap) (env : Env) (op : AOp) (v : AV) : Prop := ∀ K Kp, K v H → aop P H env op K Kp

def qop (P : Program) (H : AHeap) (env : Env) (op : AOp) (k : AV → Prop) : Prop := match op with
  | .call f xs => match f.ev env with
    | .fn (.func F) first cap => ∃ v, ACalls P F (first ++ xs.map (Opd.ev env) ++ cap) H (fun r H' => r = .ret v ∧ H' = H) ∧ k v
    | _ => False
  | .lenl x => match (x.ev env).asList with
    | some (_, l) => l.length ≤ maxLen ∧ k (.int .i64 (l.length : Int))
    | none => False
  | .lens x => match x.ev env with
    | .str s => s.length ≤ maxLen ∧ k (.int .i64 (s.length : Int))
    | _ => False
  | .bsl false e sz n z ps => (partsOk ((List.replicate n z).map AV.size) (ps.map fun p => (p.1, p.2.ev env))) ∧ k (.list sz (setAll (List.replicate n z) (ps.map fun p => (p.1, p.2.ev env))))
  | op => aval H env op k

theorem qop_sound {P : Program} {H : AHeap} {env : Env} {op : AOp} {k : AV → Prop} (h : qop P H env op k) : ∃ v, QOp P H env op v ∧ k v := by
  have hi : ∀ o kd a b, ibin o kd a b k → ∃ v, (∀ k', k' v → ibin o kd a b k') ∧ k v := by
    intro o kd a b h
    cases o <;> simp only [ibin] at h ⊢ <;> first | exact ⟨_, fun k' hk' => hk', h⟩ | exact ⟨_, fun k' hk' => ⟨h.1, hk'⟩, h.2⟩ | exact h.elim
  have hs : ∀ o a b, sbin o a b k → ∃ v, (∀ k', k' v → sbin o a b k') ∧ k v := by
    intro o a b h
    cases o <;> simp only [sbin] at h ⊢ <;> first | exact ⟨_, fun k' hk' => hk', h⟩ | exact ⟨_, fun k' hk' => ⟨h.1, hk'⟩, h.2⟩ | exact h.elim
  have hl : ∀ n lo hi (g : Nat → Nat → AV), lohi env n lo hi (fun a b => k (g a b)) → ∃ v, (∀ k' : AV → Prop, k' v → lohi env n lo hi (fun a b => k' (g a b))) ∧ k v := by
    intro n lo hi g h
    unfold lohi at h ⊢
    split at h
    · exact ⟨_, fun k' hk' => ⟨h.1, hk'⟩, h.2⟩
    · exact h.elim
  have base : aval H env op k → (∀ K Kp, aop P H env op K Kp = aval H env op (fun v => K v H)) → (∀ x, op ≠ .lenl x) → (∀ x, op ≠ .lens x) → ∃ v, QOp P H env op v ∧ k v := by
    intro h he h1 h2
    unfold QOp
    simp only [he]
    suffices ∃ v, (∀ k' : AV → Prop, k' v → aval H env op k') ∧ k v by
      obtain ⟨v, q, hv⟩ := this
      exact ⟨v, fun K Kp hK => q (fun v => K v H) hK, hv⟩
    clear he
    cases op <;> simp only [aval] at h ⊢
    case mov => exact ⟨_, fun k' hk => hk, h⟩
    case pick => split at h <;> first | exact h.elim | exact ⟨_, fun k' hk => hk, h⟩
    case ld =>
      split at h
      · exact ⟨_, fun k' hk => ⟨h.1, hk⟩, h.2⟩
      · split at h
        · obtain ⟨v, h1, h2, h3⟩ := h; exact ⟨v, fun k' hk => ⟨v, h1, h2, hk⟩, h3⟩
        · exact h.elim
      · exact h.elim
    case nilc => split at h <;> first | exact h.elim | exact ⟨_, fun k' hk => hk, h⟩
    case bin =>
      split at h
      · split at h
        · rename_i e; simp only [if_pos e]; exact ⟨_, fun k' hk => ⟨h.1, hk⟩, h.2⟩
        · rename_i e
          simp only [if_neg e]
          obtain ⟨v, q, hv⟩ := hi _ _ _ _ h.2
          exact ⟨v, fun k' hk => ⟨h.1, q _ hk⟩, hv⟩
      · exact hs _ _ _ h
      · exact h.elim
    case beq => split at h <;> first | exact h.elim | exact ⟨_, fun k' hk => hk, h⟩
    case ieqn => split at h <;> first | exact h.elim | exact ⟨_, fun k' hk => hk, h⟩
    case not => split at h <;> first | exact h.elim | exact ⟨_, fun k' hk => hk, h⟩
    case conv => split at h <;> first | exact h.elim | exact ⟨_, fun k' hk => hk, h⟩
    case b2s => split at h <;> first | exact h.elim | (obtain ⟨v, h1, h2⟩ := h; exact ⟨_, fun k' hk => ⟨v, h1, hk⟩, h2⟩)
    case neg => split at h <;> first | exact h.elim | exact ⟨_, fun k' hk => hk, h⟩
    case i2s => split at h <;> first | exact h.elim | exact ⟨_, fun k' hk => hk, h⟩
    case fa => split at h <;> first | exact h.elim | exact ⟨_, fun k' hk => hk, h⟩ | (obtain ⟨v, h1, h2, h3⟩ := h; exact ⟨_, fun k' hk => ⟨v, h1, h2, hk⟩, h3⟩)
    case fld => split at h <;> first | exact h.elim | (obtain ⟨v, h1, h2, h3⟩ := h; exact ⟨_, fun k' hk => ⟨v, h1, h2, hk⟩, h3⟩)
    case ixa => split at h <;> first | exact h.elim | (obtain ⟨h0, v, h1, h2⟩ := h; exact ⟨_, fun k' hk => ⟨h0, v, h1, hk⟩, h2⟩)
    case ix => split at h <;> first | exact h.elim | (obtain ⟨h0, v, h1, h2⟩ := h; exact ⟨_, fun k' hk => ⟨h0, v, h1, hk⟩, h2⟩)
    case sls => split at h <;> first | exact h.elim | exact hl _ _ _ (fun a b => .str _) h
    case sll =>
      split at h
      · obtain ⟨v, q, hv⟩ := hl _ _ _ (fun a b => .list _ _) h.2
        exact ⟨v, fun k' hk => ⟨h.1, q _ hk⟩, hv⟩
      · exact h.elim
    case lenl => exact absurd rfl (h1 _)
    case lens => exact absurd rfl (h2 _)
    case mn => split at h <;> first | exact h.elim | exact ⟨_, fun k' hk => ⟨h.1, hk⟩, h.2⟩
    case mx => split at h <;> first | exact h.elim | exact ⟨_, fun k' hk => ⟨h.1, hk⟩, h.2⟩
    case build => exact ⟨_, fun k' hk => ⟨h.1, hk⟩, h.2⟩
    case ext => split at h <;> first | exact h.elim | (obtain ⟨v, h1, h2⟩ := h; exact ⟨_, fun k' hk => ⟨v, h1, hk⟩, h2⟩)
    case mkfn => exact ⟨_, fun k' hk => ⟨h.1, hk⟩, h.2⟩
    case mkif => exact ⟨_, fun k' hk => ⟨h.1, hk⟩, h.2⟩
    case tas => split at h <;> first | exact h.elim | exact ⟨_, fun k' hk => ⟨h.1, hk⟩, h.2⟩
    all_goals exact h.elim
  cases op
  case call f xs =>
    simp only [qop] at h
    split at h
    · rename_i F first cap he
      obtain ⟨v, hc, hk⟩ := h
      refine ⟨v, fun K Kp hK => ?_, hk⟩
      simp only [aop, he]
      exact hc.mono fun r H' hr => by obtain ⟨rfl, rfl⟩ := hr; exact hK
    · exact h.elim
  case lenl x =>
    simp only [qop] at h
    split at h
    · rename_i he
      exact ⟨_, fun K Kp hK => by simp only [aop, aval, he]; exact fun _ => hK, h.2⟩
    · exact h.elim
  case lens x =>
    simp only [qop] at h
    split at h
    · rename_i he
      exact ⟨_, fun K Kp hK => by simp only [aop, aval, he]; exact fun _ => hK, h.2⟩
    · exact h.elim
  case alloc => exact h.elim
  case allb => exact h.elim
  case s2b => exact h.elim
  case mkm => exact h.elim
  case mpl => exact h.elim
  case mpu => exact h.elim
  case box => exact h.elim
  case st => exact h.elim
  case bsl own e sz n z ps =>
    cases own
    · exact ⟨_, fun K Kp hK => ⟨h.1, hK⟩, h.2⟩
    · exact h.elim
  case app => exact h.elim
  case pan => exact h.elim
  all_goals exact base h (fun K Kp => rfl) (fun x e => by cases e) (fun x e => by cases e)

/-- One quiet operation with its guard. -/
def qOp (P : Program) (ai : AI) (K : Env → Prop) (env : Env) (H : AHeap) : Prop := match ai.g with
  | none => qop P H env ai.op fun v => K (putD env ai.d v)
  | some (s, want) => match env.get s with
    | .bool b => (b = want → qop P H env ai.op fun v => K (putD env ai.d v)) ∧ (b = !want → K (putD env ai.d (.tuple [])))
    | .tuple [] => K (putD env ai.d (.tuple []))
    | _ => False

/-- In the textual order; all but those of 'eff' are quiet. -/
def awLex (P : Program) (eff : Nat → Bool) (K : Env → AHeap → Prop) (Kp : Value → AHeap → Prop) : List (Nat × AI) → Env → AHeap → Prop
  | [], env, H => K env H
  | (i, ai) :: rest, env, H => if eff i = true then awOp P ai (awLex P eff K Kp rest) Kp env H else qOp P ai (fun env' => awLex P eff K Kp rest env' H) env H

def AI.rd (ai : AI) : List Nat := (match ai.g with | some (s, _) => [s] | none => []) ++ ai.op.rd

/-- They do not meet. -/
def apart (a b : AI) : Bool :=
  (match a.d with | some d => !b.rd.contains d && a.d != b.d | none => true) && (match b.d with | some d => !a.rd.contains d | none => true)

/-- All that must stand ahead of an operation, as bits. -/
def aftMask (acc : List Nat) : List Nat → Nat
  | [] => 0
  | j :: l => (aftMask acc l ||| 1 <<< j) ||| acc.getD j 0
def clos : List Nat → List (AI × List Nat) → List Nat
  | acc, [] => acc
  | acc, (_, l) :: rest => clos (acc ++ [aftMask acc l]) rest

def lexPair (ops : List (AI × List Nat)) (eff : Nat → Bool) (cl : Nat) (i : Nat) (a : AI) (j : Nat) : Bool := match ops[j]? with
  | some (b, _) => cl.testBit j || (!eff i && !eff j && apart a b)
  | none => false

/-- Two operations of which neither waits for the other do not meet, and are quiet. -/
def lexAll (ops : List (AI × List Nat)) (eff : Nat → Bool) (cls : List Nat) : Bool :=
  (List.range ops.length).all fun i => match ops[i]? with
    | some (a, l) => l.all (fun j => decide (j < i)) && (List.range i).all (lexPair ops eff (cls.getD i 0) i a)
    | none => true
def lexOK (ops : List (AI × List Nat)) (eff : Nat → Bool) : Bool := lexAll ops eff (clos [] ops)

/-- What a quiet operation with its guard comes to. -/
def QV (P : Program) (H : AHeap) (env : Env) (ai : AI) (v : AV) : Prop := match ai.g with
  | none => QOp P H env ai.op v
  | some (s, w) => (∃ b, env.get s = .bool b ∧ if b = w then QOp P H env ai.op v else v = .tuple []) ∨ (env.get s = .tuple [] ∧ v = .tuple [])

theorem qOp_sound {P : Program} {ai : AI} {K : Env → Prop} {env : Env} {H : AHeap} (h : qOp P ai K env H) : ∃ v, QV P H env ai v ∧ K (putD env ai.d v) := by
  unfold qOp at h
  unfold QV
  split at h
  · rename_i hg
    obtain ⟨v, q, hk⟩ := qop_sound h
    exact ⟨v, q, hk⟩
  · rename_i s w hg
    split at h
    · rename_i b hb
      by_cases e : b = w
      · obtain ⟨v, q, hk⟩ := qop_sound (h.1 e)
        exact ⟨v, .inl ⟨b, hb, by simp [e, q]⟩, hk⟩
      · exact ⟨.tuple [], .inl ⟨b, hb, by simp [e]⟩, h.2 (by cases b <;> cases w <;> simp_all)⟩
    · rename_i hb
      exact ⟨.tuple [], .inr ⟨hb, rfl⟩, h⟩
    · exact h.elim

theorem QV.awOp {P : Program} {H : AHeap} {env : Env} {ai : AI} {v : AV} (h : QV P H env ai v) {K : Env → AHeap → Prop} {Kp : Value → AHeap → Prop} (hK : K (putD env ai.d v) H) : awOp P ai K Kp env H := by
  unfold QV at h
  unfold Go.Av.awOp
  split at h
  · rename_i hg
    simp only [hg]
    exact h _ _ hK
  · rename_i s w hg
    rcases h with ⟨b, hb, h⟩ | ⟨hb, h⟩
    · simp only [hg, hb]
      refine ⟨fun e => ?_, fun e => ?_⟩
      · rw [if_pos e] at h; exact h _ _ hK
      · rw [if_neg (by rw [e]; cases w <;> simp)] at h
        subst h; exact hK
    · simp only [hg, hb]
      subst h; exact hK

theorem QV.congr {P : Program} {H : AHeap} {env env' : Env} {ai : AI} {v : AV} (he : ∀ s ∈ ai.rd, env.get s = env'.get s) (h : QV P H env ai v) : QV P H env' ai v := by
  unfold QV at h ⊢
  unfold AI.rd at he
  have hq : QOp P H env ai.op v → QOp P H env' ai.op v := fun q K Kp hK => by
    rw [← aop_congr (env := env) (env' := env') fun s hs => he s (by simp [hs])]
    exact q K Kp hK
  split at h
  · rename_i hg
    exact hq h
  · rename_i s w hg
    rcases h with ⟨b, hb, h⟩ | ⟨hb, h⟩
    · refine .inl ⟨b, by rw [← he s (by simp [hg]), hb], ?_⟩
      split at h
      · rename_i e; rw [if_pos e]; exact hq h
      · rename_i e; rw [if_neg e]; exact h
    · exact .inr ⟨by rw [← he s (by simp [hg]), hb], h⟩

/-- As 'awLex', by values. -/
def awLexV (P : Program) (eff : Nat → Bool) (K : Env → AHeap → Prop) (Kp : Value → AHeap → Prop) : List (Nat × AI) → Env → AHeap → Prop
  | [], env, H => K env H
  | (i, ai) :: rest, env, H => if eff i = true then awOp P ai (awLexV P eff K Kp rest) Kp env H else ∃ v, QV P H env ai v ∧ awLexV P eff K Kp rest (putD env ai.d v) H

theorem awLex_V {P : Program} {eff : Nat → Bool} {K : Env → AHeap → Prop} {Kp : Value → AHeap → Prop} : ∀ (l : List (Nat × AI)) (env : Env) (H : AHeap), awLex P eff K Kp l env H → awLexV P eff K Kp l env H
  | [], env, H, h => h
  | (i, ai) :: rest, env, H, h => by
    simp only [awLex] at h
    simp only [awLexV]
    split
    · rename_i e
      rw [if_pos e] at h
      exact awOp_mono (fun e H he => awLex_V rest e H he) (fun v H hv => hv) h
    · rename_i e
      rw [if_neg e] at h
      obtain ⟨v, q, hk⟩ := qOp_sound h
      exact ⟨v, q, awLex_V rest _ _ hk⟩

theorem get_putD {env : Env} {d : Option Nat} {v : AV} {s : Nat} (h : d ≠ some s) : (putD env d v).get s = env.get s := by
  cases d with
  | none => rfl
  | some d =>
    show (env.set d v).get s = _
    rw [Env.get_set, if_neg (by rintro rfl; exact h rfl)]

theorem putD_comm {env : Env} {d d' : Option Nat} {v u : AV} (h : ∀ s, d = some s → d' ≠ some s) : putD (putD env d v) d' u = putD (putD env d' u) d v := by
  cases d with
  | none => rfl
  | some d => cases d' with
    | none => rfl
    | some d' => exact Env.set_comm _ _ _ _ _ (by rintro rfl; exact h d rfl rfl)

/-- A quiet operation goes ahead of another that it does not meet. -/
theorem lex_swap {P : Program} {eff : Nat → Bool} {K : Env → AHeap → Prop} {Kp : Value → AHeap → Prop} {i j : Nat} {a b : AI} {rest : List (Nat × AI)} {env : Env} {H : AHeap} (hi : eff i = false) (hj : eff j = false) (hab : apart a b = true)
    (h : awLexV P eff K Kp ((j, b) :: (i, a) :: rest) env H) : awLexV P eff K Kp ((i, a) :: (j, b) :: rest) env H := by
  simp only [awLexV, hi, hj, Bool.false_eq_true, if_false] at h ⊢
  obtain ⟨u, hu, v, hv, hr⟩ := h
  unfold apart at hab
  rw [Bool.and_eq_true] at hab
  have h1 : ∀ s, a.d = some s → s ∉ b.rd ∧ b.d ≠ some s := by
    intro s hs
    have := hab.1
    rw [hs] at this
    simp only [Bool.and_eq_true, Bool.not_eq_true', bne_iff_ne, ne_eq] at this
    exact ⟨by simpa using this.1, fun e => this.2 e.symm⟩
  have h2 : ∀ s, b.d = some s → s ∉ a.rd := by
    intro s hs
    have := hab.2
    rw [hs] at this
    simpa using this
  refine ⟨v, hv.congr fun s hs => get_putD fun e => h2 s e hs, u, hu.congr fun s hs => (get_putD fun e => (h1 s e).1 hs).symm, ?_⟩
  rw [putD_comm fun s hs => (h1 s hs).2]
  exact hr

theorem lex_bubble {P : Program} {eff : Nat → Bool} {K : Env → AHeap → Prop} {Kp : Value → AHeap → Prop} {i : Nat} {a : AI} {post : List (Nat × AI)} : ∀ (pre : List (Nat × AI)) (env : Env) (H : AHeap), (∀ p ∈ pre, eff i = false ∧ eff p.1 = false ∧ apart a p.2 = true) →
    awLexV P eff K Kp (pre ++ (i, a) :: post) env H → awLexV P eff K Kp ((i, a) :: (pre ++ post)) env H
  | [], env, H, hp, h => h
  | (j, b) :: pre, env, H, hp, h => by
    obtain ⟨hi, hj, hab⟩ := hp (j, b) (by simp)
    refine lex_swap hi hj hab ?_
    simp only [List.cons_append, awLexV] at h ⊢
    rw [if_neg (by simp [hj])] at h ⊢
    obtain ⟨u, hu, h⟩ := h
    refine ⟨u, hu, ?_⟩
    have := lex_bubble pre _ _ (fun p hp' => hp p (by simp [hp'])) h
    simpa only [awLexV, List.append_eq] using this

def numL (ops : List (AI × List Nat)) : Nat → List (Nat × AI) := fun k => (ops.zipIdx k).map fun p => (p.2, p.1.1)

structure LexInv (ops : List (AI × List Nat)) (listed : List Nat) (rem : List (Nat × AI)) : Prop where
  mem : ∀ i a, (i, a) ∈ rem ↔ i ∉ listed ∧ ∃ l, ops[i]? = some (a, l)
  sorted : rem.Pairwise fun p q => p.1 < q.1
  closed : ∀ i ∈ listed, ∀ p, ops[i]? = some p → ∀ j ∈ p.2, j ∈ listed

def ClosGood (ops : List (AI × List Nat)) (listed : List Nat) (acc : List Nat) : Prop := ∀ i x, (acc.getD i 0).testBit x = true → (∀ p, ops[i]? = some p → ∀ m ∈ p.2, m ∈ listed) → x ∈ listed

theorem aftMask_good {ops : List (AI × List Nat)} {listed : List Nat} (hc : ∀ i ∈ listed, ∀ p, ops[i]? = some p → ∀ j ∈ p.2, j ∈ listed) {acc : List Nat} (hg : ClosGood ops listed acc) : ∀ (l : List Nat), (∀ m ∈ l, m ∈ listed) → ∀ x, (aftMask acc l).testBit x = true → x ∈ listed
  | [], h, x, hx => by simp [aftMask] at hx
  | j :: l, h, x, hx => by
    simp only [aftMask, Nat.testBit_or, Bool.or_eq_true] at hx
    rcases hx with (hx | hx) | hx
    · exact aftMask_good hc hg l (fun m hm => h m (by simp [hm])) x hx
    · have : x = j := by
        rw [Nat.one_shiftLeft, Nat.testBit_two_pow] at hx
        simpa using (by simpa using hx : j = x).symm
      subst this
      exact h x (by simp)
    · exact hg j x hx (hc j (h j (by simp)))

theorem clos_good {ops : List (AI × List Nat)} {listed : List Nat} (hc : ∀ i ∈ listed, ∀ p, ops[i]? = some p → ∀ j ∈ p.2, j ∈ listed) : ∀ (rest pre : List (AI × List Nat)) (acc : List Nat), ops = pre ++ rest → acc.length = pre.length → ClosGood ops listed acc → ClosGood ops listed (clos acc rest)
  | [], pre, acc, he, hl, hg => hg
  | (a, l) :: rest, pre, acc, he, hl, hg => by
    refine clos_good hc rest (pre ++ [(a, l)]) _ (by simp [he]) (by simp [hl]) fun i x hx hi => ?_
    rcases Nat.lt_trichotomy i acc.length with h | h | h
    · refine hg i x ?_ hi
      simp only [List.getD_eq_getElem?_getD] at hx ⊢
      rwa [List.getElem?_append_left h] at hx
    · subst h
      simp only [List.getD_eq_getElem?_getD, List.getElem?_append_right (Nat.le_refl _), Nat.sub_self, List.getElem?_cons_zero, Option.getD_some] at hx
      exact aftMask_good hc hg l (fun m hm => hi (a, l) (by rw [he, hl]; simp) m hm) x hx
    · simp only [List.getD_eq_getElem?_getD] at hx
      rw [List.getElem?_eq_none (by simp; omega)] at hx
      simp at hx

theorem clos_listed {ops : List (AI × List Nat)} {listed : List Nat} (hc : ∀ i ∈ listed, ∀ p, ops[i]? = some p → ∀ j ∈ p.2, j ∈ listed) (i : Nat) (hi : ∀ p, ops[i]? = some p → ∀ j ∈ p.2, j ∈ listed) (x : Nat) (hx : ((clos [] ops).getD i 0).testBit x = true) : x ∈ listed :=
  clos_good hc ops [] [] rfl rfl (fun i x hx => by simp at hx) i x hx hi

theorem awAny_of_lexV {P : Program} {ops : List (AI × List Nat)} {eff : Nat → Bool} (hok : lexOK ops eff = true) {K : Env → AHeap → Prop} {Kp : Value → AHeap → Prop} :
    ∀ (f : Nat) (listed : List Nat) (rem : List (Nat × AI)) (env : Env) (H : AHeap), rem.length ≤ f → LexInv ops listed rem → awLexV P eff K Kp rem env H → awAny P ops K Kp f listed env H := by
  have hst : ∀ i a l, ops[i]? = some (a, l) → (∀ j ∈ l, j < i) ∧ ∀ j, j < i → lexPair ops eff ((clos [] ops).getD i 0) i a j = true := by
    intro i a l ho
    unfold lexOK lexAll at hok
    have hlt : i < ops.length := (List.getElem?_eq_some_iff.1 ho).1
    have := (List.all_eq_true.1 hok) i (by simpa using hlt)
    rw [ho] at this
    simp only [Bool.and_eq_true, List.all_eq_true, decide_eq_true_eq, List.mem_range] at this
    exact ⟨this.1, this.2⟩
  have hempty : ∀ listed rem, LexInv ops listed rem → readyL ops listed = [] → rem = [] := by
    intro listed rem hi hr
    cases rem with
    | nil => rfl
    | cons p rem =>
      exfalso
      obtain ⟨i, a⟩ := p
      obtain ⟨h1, l, ho⟩ := (hi.mem i a).1 (by simp)
      have hall : ∀ j ∈ l, j ∈ listed := by
        intro j hj
        have hji := (hst i a l ho).1 j hj
        by_cases hjl : j ∈ listed
        · exact hjl
        · exfalso
          have hlt : i < ops.length := (List.getElem?_eq_some_iff.1 ho).1
          have hj' : j < ops.length := by omega
          have hm := (hi.mem j (ops[j]).1).2 ⟨hjl, (ops[j]).2, by simp [List.getElem?_eq_getElem hj']⟩
          have hs := hi.sorted
          rw [List.pairwise_cons] at hs
          rcases List.mem_cons.1 hm with e | hm
          · injection e with e1 e2; omega
          · have := hs.1 _ hm
            simp only at this; omega
      have : i ∈ readyL ops listed := by
        unfold readyL
        simp only [List.mem_filter, List.mem_range, Bool.and_eq_true, Bool.not_eq_true']
        refine ⟨(List.getElem?_eq_some_iff.1 ho).1, by simpa using h1, ?_⟩
        rw [ho]
        simpa using hall
      rw [hr] at this
      simp at this
  have hstep : ∀ (f : Nat) (ih : ∀ (listed : List Nat) (rem : List (Nat × AI)) (env : Env) (H : AHeap), rem.length ≤ f → LexInv ops listed rem → awLexV P eff K Kp rem env H → awAny P ops K Kp f listed env H)
      (listed : List Nat) (rem : List (Nat × AI)) (env : Env) (H : AHeap), rem.length ≤ f + 1 → LexInv ops listed rem → awLexV P eff K Kp rem env H → ∀ i ∈ readyL ops listed, match ops[i]? with
        | some (ai, _) => awOp P ai (awAny P ops K Kp f (i :: listed)) Kp env H
        | none => False := by
    intro f ih listed rem env H hl hi h i hr
    unfold readyL at hr
    simp only [List.mem_filter, List.mem_range, Bool.and_eq_true, Bool.not_eq_true'] at hr
    obtain ⟨hlt, hnl, haft⟩ := hr
    have hnl : i ∉ listed := by simpa using hnl
    cases ho : ops[i]? with
    | none => simp [List.getElem?_eq_getElem hlt] at ho
    | some p =>
      obtain ⟨a, l⟩ := p
      rw [ho] at haft
      simp only [List.all_eq_true] at haft
      have haft : ∀ j ∈ l, j ∈ listed := fun j hj => by simpa using haft j hj
      have hm := (hi.mem i a).2 ⟨hnl, l, ho⟩
      obtain ⟨pre, post, e⟩ := List.append_of_mem hm
      subst e
      have hcl := clos_listed hi.closed i (fun p hp j hj => by rw [ho] at hp; injection hp with hp; subst hp; exact haft j hj)
      have hs := hi.sorted
      rw [List.pairwise_append] at hs
      have hb := lex_bubble (P := P) (K := K) (Kp := Kp) (eff := eff) (i := i) (a := a) (post := post) pre env H (fun q hq => by
        obtain ⟨j, b⟩ := q
        have hji : j < i := hs.2.2 _ hq (i, a) (by simp)
        obtain ⟨hjl, l', hoj⟩ := (hi.mem j b).1 (by simp [hq])
        have := (hst i a l ho).2 j hji
        unfold lexPair at this
        rw [hoj] at this
        simp only [Bool.or_eq_true, Bool.and_eq_true, Bool.not_eq_true'] at this
        rcases this with h1 | ⟨⟨h1, h2⟩, h3⟩
        · exact absurd (hcl j h1) hjl
        · exact ⟨h1, h2, h3⟩) h
      have hinv : LexInv ops (i :: listed) (pre ++ post) := by
        have hp : ∀ q ∈ pre ++ post, q.1 ≠ i := by
          intro q hq
          rcases List.mem_append.1 hq with hq | hq
          · have : q.1 < i := hs.2.2 _ hq (i, a) (by simp)
            omega
          · have := hs.2.1
            rw [List.pairwise_cons] at this
            have : i < q.1 := this.1 _ hq
            omega
        refine ⟨fun j b => ?_, ?_, ?_⟩
        · have := hi.mem j b
          constructor
          · intro hjm
            have hne := hp _ hjm
            obtain ⟨h1, h2⟩ := this.1 (by rcases List.mem_append.1 hjm with h | h <;> simp [h])
            exact ⟨by simp only [List.mem_cons, not_or]; exact ⟨hne, h1⟩, h2⟩
          · rintro ⟨h1, h2⟩
            simp only [List.mem_cons, not_or] at h1
            have := this.2 ⟨h1.2, h2⟩
            simp only [List.mem_append, List.mem_cons] at this ⊢
            rcases this with h | h | h
            · exact .inl h
            · injection h with e1 e2; exact absurd e1 h1.1
            · exact .inr h
        · rw [List.pairwise_append]
          refine ⟨hs.1, (List.pairwise_cons.1 hs.2.1).2, fun q hq r hr => hs.2.2 q hq r (by simp [hr])⟩
        · intro j hj p hp' m hm'
          rcases List.mem_cons.1 hj with rfl | hj
          · rw [ho] at hp'
            injection hp' with hp'
            subst hp'
            simp [haft m hm']
          · simp [hi.closed j hj p hp' m hm']
      have hlen : (pre ++ post).length ≤ f := by
        simp only [List.length_append, List.length_cons] at hl ⊢
        omega
      simp only [awLexV] at hb
      split at hb
      · exact awOp_mono (fun e H he => ih _ _ _ _ hlen hinv he) (fun v H hv => hv) hb
      · obtain ⟨v, q, hr⟩ := hb
        exact q.awOp (ih _ _ _ _ hlen hinv hr)
  intro f
  induction f with
  | zero =>
    intro listed rem env H hl hi h
    have : rem = [] := by simpa using hl
    subst this
    refine ⟨?_, h⟩
    unfold readyL
    rw [List.filter_eq_nil_iff]
    intro i hi' hcon
    simp only [List.mem_range] at hi'
    have := (hi.mem i (ops[i]).1).2 ⟨by simp only [Bool.and_eq_true, Bool.not_eq_true'] at hcon; simpa using hcon.1, (ops[i]).2, by simp [List.getElem?_eq_getElem hi']⟩
    simp at this
  | succ f ih =>
    intro listed rem env H hl hi h
    refine ⟨fun e => ?_, hstep f ih listed rem env H hl hi h⟩
    have := hempty listed rem hi e
    subst this
    exact h

theorem zipIdx_snd {α : Type} : ∀ (l : List α) (k : Nat), (l.zipIdx k).map Prod.snd = List.range' k l.length
  | [], k => rfl
  | x :: l, k => by simp [List.range'_succ]

/-- THE TEXTUAL ORDER SERVES. -/
theorem aw_dreg_lex {P : Program} {K : AK} {env : Env} {H : AHeap} {ops : List (AI × List Nat)} {kill : List Nat} (eff : Nat → Bool) (hok : lexOK ops eff = true)
    (h : awLex P eff (fun env' H' => K .norm (env'.kill kill) H') (fun pv H' => K (.pan pv) [] H') (numL ops 0) env H) : aw P (.dreg ops kill) K env H := by
  show awAny P ops _ _ _ _ _ _
  refine awAny_of_lexV hok _ _ (numL ops 0) env H (by simp [numL]) ⟨fun i a => ?_, ?_, fun i hi => by simp at hi⟩ (awLex_V _ _ _ h)
  · simp only [numL, List.mem_map, List.not_mem_nil, not_false_eq_true, true_and]
    constructor
    · rintro ⟨⟨⟨a', l⟩, j⟩, hm, e⟩
      injection e with e1 e2
      subst e1 e2
      obtain ⟨h1, h2, h3⟩ := List.mem_zipIdx hm
      refine ⟨l, ?_⟩
      simp only [Nat.zero_add] at h2
      simp only [Nat.sub_zero] at h3
      rw [List.getElem?_eq_getElem h2, ← h3]
    · rintro ⟨l, ho⟩
      refine ⟨((a, l), i), ?_, rfl⟩
      rw [List.mem_zipIdx_iff_getElem?]
      exact ho
  · unfold numL
    rw [List.pairwise_map]
    have : (List.map Prod.snd (ops.zipIdx 0)).Pairwise (· < ·) := by
 
      rw [zipIdx_snd]
      exact List.pairwise_lt_range' 
    rwa [List.pairwise_map] at this
end Go.Av

namespace Go.Av
/-- The whole of what is asked of a function, in one closed fact. -/
def compF (P : Program) (kl : Nat → List Nat) (ow : Nat → Nat → Bool) (n : Nat) (fn : Func) : Option (AC × List ARV) :=
  if fn.name != "runtime.NumGoroutine" && decide (n ≤ fn.ntmps) then
    match fn.body with
    | some code => match comp P kl ow fn.ntmps code, compRes P fn.results.toList with
      | some ac, some rs => some (ac, rs)
      | _, _ => none
    | none => none
  else none

theorem ACalls.enterF {P : Program} {f : FuncId} {fn : Func} {ac : AC} {kl : Nat → List Nat} {ow : Nat → Nat → Bool} {n : Nat} {rs : List ARV} (hf : P.funcs[f]? = some fn)
    (hmix : P.follows .mixedOrders = true) (hc : compF P kl ow n fn = some (ac, rs)) {args : List AV} (ha : args.length = n) {H : AHeap} {post : ARes → AHeap → Prop}
    (h : aw P ac (retK rs post) (argEnv 0 args) H) : ACalls P f args H post := by
  unfold compF at hc
  split at hc
  · rename_i hcond
    simp only [Bool.and_eq_true, decide_eq_true_eq] at hcond
    split at hc
    · rename_i code hb
      split at hc
      · rename_i ac' rs' h1 h2
        injection hc with hc
        injection hc with e1 e2
        subst e1 e2
        exact ACalls.enter hf hb hcond.1 hmix h1 h2 (by omega) h
      · cases hc
    · cases hc
  · cases hc
end Go.Av
