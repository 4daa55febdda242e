/- Regions of drawn order in which an operation with an effect meets quiet ones that read elsewhere. -/
import Derived.Test.YtpdbcfnmhicnbaaDoorAvE
set_option linter.unusedVariables false
set_option linter.unusedSimpArgs false
namespace Go.Av

def Agree (B : List Nat) (H0 H : AHeap) : Prop := ∀ b ∈ B, H b = H0 b

/-- The block that an operation reads. -/
def ldOk (B : List Nat) (env : Env) : AOp → Prop
  | .ld _ _ x => match x.ev env with
    | .ptr b _ _ => b ∈ B
    | _ => True
  | .call _ _ => False
  | _ => True

theorem aval_heap {H0 H : AHeap} {B : List Nat} {env : Env} {op : AOp} {k : AV → Prop} (ha : Agree B H0 H) (hl : ldOk B env op) : aval H env op k = aval H0 env op k := by
  cases op
  case ld g s x =>
    simp only [ldOk] at hl
    simp only [aval]
    split
    · rfl
    · rename_i b off p he
      rw [he] at hl
      rw [ha b hl]
    · rfl
  all_goals rfl

def fop (P : Program) (B : List Nat) (H0 : AHeap) (env : Env) (op : AOp) (k : AV → Prop) : Prop := ldOk B env op ∧ qop P H0 env op k

theorem fop_sound {P : Program} {B : List Nat} {H0 : AHeap} {env : Env} {op : AOp} {k : AV → Prop} (h : fop P B H0 env op k) : ∃ v, (∀ H, Agree B H0 H → QOp P H env op v) ∧ k v := by
  obtain ⟨hl, h⟩ := h
  obtain ⟨v, q, hv⟩ := qop_sound h
  refine ⟨v, fun H ha K Kp hK => ?_, hv⟩
  have := q (fun v' H' => v' = v) (fun _ _ => False) rfl
  have base : (∀ K Kp H, aop P H env op K Kp = aval H env op fun v => K v H) → aop P H env op K Kp := by
    intro he
    rw [he] at this ⊢
    rw [aval_heap ha hl]
    exact aval_mono (fun v' e => by rw [e]; exact hK) this
  cases op
  case call => exact hl.elim
  case alloc => exact h.elim
  case allb => exact h.elim
  case s2b => exact h.elim
  case mkm => exact h.elim
  case mpl => exact h.elim
  case mpu => exact h.elim
  case box => exact h.elim
  case st => exact h.elim
  case bsl own e sz n z ps =>
    cases own
    · exact ⟨h.1, by rw [← this.2] at hK; exact hK⟩
    · exact h.elim
  case app => exact h.elim
  case pan => exact h.elim
  all_goals exact base fun _ _ _ => rfl

/-- A quiet operation with its guard: over all heaps that agree. -/
def fOp (P : Program) (B : List Nat) (H0 : AHeap) (ai : AI) (K : Env → Prop) (env : Env) : Prop := match ai.g with
  | none => fop P B H0 env ai.op fun v => K (putD env ai.d v)
  | some (s, want) => match env.get s with
    | .bool b => (b = want → fop P B H0 env ai.op fun v => K (putD env ai.d v)) ∧ (b = !want → K (putD env ai.d (.tuple [])))
    | .tuple [] => K (putD env ai.d (.tuple []))
    | _ => False

def awLexF (P : Program) (n : Nat) (eff : Nat → Bool) (B : List Nat) (H0 : AHeap) (K : Env → AHeap → Prop) (Kp : Value → AHeap → Prop) : List (Nat × AI) → Env → AHeap → Prop
  | [], env, H => K env H
  | (i, ai) :: rest, env, H => if n ≤ i then awOp P ai (awLexF P n eff B H0 K Kp rest) Kp env H else if eff i = true then awOp P ai (fun env' H' => Agree B H0 H' ∧ awLexF P n eff B H0 K Kp rest env' H') Kp env H else fOp P B H0 ai (fun env' => awLexF P n eff B H0 K Kp rest env' H) env

def isAlloc : AOp → Bool
  | .alloc .. => true
  | _ => false

def lexPairF (ops : List (AI × List Nat)) (n : Nat) (eff : Nat → Bool) (cl : Nat) (i : Nat) (a : AI) (j : Nat) : Bool := match ops[j]? with
  | some (b, _) => cl.testBit j || (decide (i < n) && ((!eff j && apart a b) || (eff i && eff j && apart a b && isAlloc a.op && isAlloc b.op && a.g.isNone && b.g.isNone)))
  | none => false

def lexOKF (ops : List (AI × List Nat)) (n : Nat) (eff : Nat → Bool) : Bool :=
  (List.range ops.length).all fun i => match ops[i]? with
    | some (a, l) => l.all (fun j => decide (j < i)) && (List.range i).all (lexPairF ops n eff ((clos [] ops).getD i 0) i a)
    | none => true

def FV (P : Program) (B : List Nat) (H0 : AHeap) (env : Env) (ai : AI) (v : AV) : Prop := ∀ H, Agree B H0 H → QV P H env ai v

theorem fOp_sound {P : Program} {B : List Nat} {H0 : AHeap} {ai : AI} {K : Env → Prop} {env : Env} (h : fOp P B H0 ai K env) : ∃ v, FV P B H0 env ai v ∧ K (putD env ai.d v) := by
  unfold fOp at h
  unfold FV QV
  split at h
  · rename_i hg
    obtain ⟨v, q, hk⟩ := fop_sound h
    exact ⟨v, fun H ha => by rw [hg]; exact q H ha, hk⟩
  · rename_i s w hg
    split at h
    · rename_i b hb
      by_cases e : b = w
      · obtain ⟨v, q, hk⟩ := fop_sound (h.1 e)
        exact ⟨v, fun H ha => by rw [hg]; exact .inl ⟨b, hb, by simp [e, q H ha]⟩, hk⟩
      · exact ⟨.tuple [], fun H ha => by rw [hg]; exact .inl ⟨b, hb, by simp [e]⟩, h.2 (by cases b <;> cases w <;> simp_all)⟩
    · rename_i hb
      exact ⟨.tuple [], fun H ha => by rw [hg]; exact .inr ⟨hb, rfl⟩, h⟩
    · exact h.elim

theorem FV.congr {P : Program} {B : List Nat} {H0 : AHeap} {env env' : Env} {ai : AI} {v : AV} (he : ∀ s ∈ ai.rd, env.get s = env'.get s) (h : FV P B H0 env ai v) : FV P B H0 env' ai v :=
  fun H ha => (h H ha).congr he

def awLexW (P : Program) (n : Nat) (eff : Nat → Bool) (B : List Nat) (H0 : AHeap) (K : Env → AHeap → Prop) (Kp : Value → AHeap → Prop) : List (Nat × AI) → Env → AHeap → Prop
  | [], env, H => K env H
  | (i, ai) :: rest, env, H => if n ≤ i then awOp P ai (awLexW P n eff B H0 K Kp rest) Kp env H else if eff i = true then awOp P ai (fun env' H' => Agree B H0 H' ∧ awLexW P n eff B H0 K Kp rest env' H') Kp env H else ∃ v, FV P B H0 env ai v ∧ awLexW P n eff B H0 K Kp rest (putD env ai.d v) H

theorem awLexF_W {P : Program} {n : Nat} {eff : Nat → Bool} {B : List Nat} {H0 : AHeap} {K : Env → AHeap → Prop} {Kp : Value → AHeap → Prop} : ∀ (l : List (Nat × AI)) (env : Env) (H : AHeap), awLexF P n eff B H0 K Kp l env H → awLexW P n eff B H0 K Kp l env H
  | [], env, H, h => h
  | (i, ai) :: rest, env, H, h => by
    simp only [awLexF] at h
    simp only [awLexW]
    split
    · rename_i e
      rw [if_pos e] at h
      exact awOp_mono (fun e H he => awLexF_W rest e H he) (fun v H hv => hv) h
    · rename_i e0
      rw [if_neg e0] at h
      split
      · rename_i e
        rw [if_pos e] at h
        exact awOp_mono (fun e H he => ⟨he.1, awLexF_W rest e H he.2⟩) (fun v H hv => hv) h
      · rename_i e
        rw [if_neg e] at h
        obtain ⟨v, q, hk⟩ := fOp_sound h
        exact ⟨v, q, awLexF_W rest _ _ hk⟩

theorem awOp_congr {P : Program} {ai : AI} {K K' : Env → AHeap → Prop} {Kp : Value → AHeap → Prop} {env env' : Env} {H : AHeap} (he : ∀ s ∈ ai.rd, env.get s = env'.get s) (hK : ∀ v H', K (putD env ai.d v) H' → K' (putD env' ai.d v) H') (h : awOp P ai K Kp env H) : awOp P ai K' Kp env' H := by
  unfold AI.rd at he
  unfold awOp at h ⊢
  split at h
  · rename_i hg
    rw [← aop_congr (env := env) (env' := env') fun s hs => he s (by simp [hs])]
    exact aop_mono (fun v H' hv => hK _ _ hv) (fun _ _ hv => hv) h
  · rename_i s w hg
    rw [← he s (by simp [hg])]
    split at h
    · rename_i b hb
      refine ⟨fun e => ?_, fun e => hK _ _ (h.2 e)⟩
      rw [← aop_congr (env := env) (env' := env') fun s hs => he s (by simp [hs])]
      exact aop_mono (fun v H' hv => hK _ _ hv) (fun _ _ hv => hv) (h.1 e)
    · exact hK _ _ h
    · exact h.elim

theorem apart_spec {a b : AI} (hab : apart a b = true) : (∀ s, a.d = some s → s ∉ b.rd ∧ b.d ≠ some s) ∧ ∀ s, b.d = some s → s ∉ a.rd := by
  unfold apart at hab
  rw [Bool.and_eq_true] at hab
  constructor
  · intro s hs
    have := hab.1
    rw [hs] at this
    simp only [Bool.and_eq_true, Bool.not_eq_true', bne_iff_ne, ne_eq] at this
    exact ⟨by simpa using this.1, fun e => this.2 e.symm⟩
  · intro s hs
    have := hab.2
    rw [hs] at this
    simpa using this

theorem set_comm_heap {H : AHeap} {b b' : Nat} {o o' : AObj} (h : b ≠ b') : (H.set b o).set b' o' = (H.set b' o').set b o := by
  funext x
  simp only [AHeap.set]
  split <;> split <;> simp_all

theorem lexF_swap {P : Program} {n : Nat} {eff : Nat → Bool} {B : List Nat} {H0 : AHeap} {K : Env → AHeap → Prop} {Kp : Value → AHeap → Prop} {i j : Nat} {a b : AI} {rest : List (Nat × AI)} {env : Env} {H : AHeap} (ha : Agree B H0 H) (hin : i < n) (hjn : j < n)
    (hij : (eff j = false ∧ apart a b = true) ∨ (eff i = true ∧ eff j = true ∧ apart a b = true ∧ isAlloc a.op = true ∧ isAlloc b.op = true ∧ a.g = none ∧ b.g = none))
    (h : awLexW P n eff B H0 K Kp ((j, b) :: (i, a) :: rest) env H) : awLexW P n eff B H0 K Kp ((i, a) :: (j, b) :: rest) env H := by
  have hin' : ¬ n ≤ i := by omega
  have hjn' : ¬ n ≤ j := by omega
  rcases hij with ⟨hj, hab⟩ | ⟨hi, hj, hab, oa, ob, ga, gb⟩
  · obtain ⟨h1, h2⟩ := apart_spec hab
    simp only [awLexW, hj, hin', hjn', Bool.false_eq_true, if_false] at h ⊢
    obtain ⟨u, hu, h⟩ := h
    split at h
    · rename_i hi
      rw [if_pos hi]
      refine awOp_congr (fun s hs => get_putD fun e => h2 s e hs) (fun v H' hv => ⟨hv.1, u, hu.congr fun s hs => (get_putD fun e => (h1 s e).1 hs).symm, ?_⟩) h
      rw [putD_comm fun s hs => (h1 s hs).2]
      exact hv.2
    · rename_i hi
      rw [if_neg hi]
      obtain ⟨v, hv, hr⟩ := h
      refine ⟨v, hv.congr fun s hs => get_putD fun e => h2 s e hs, u, hu.congr fun s hs => (get_putD fun e => (h1 s e).1 hs).symm, ?_⟩
      rw [putD_comm fun s hs => (h1 s hs).2]
      exact hr
  · obtain ⟨h1, h2⟩ := apart_spec hab
    obtain ⟨da, ga', opa⟩ := a
    obtain ⟨db, gb', opb⟩ := b
    simp only at ga gb oa ob h1 h2
    subst ga gb
    cases opa <;> simp only [isAlloc, Bool.false_eq_true] at oa
    cases opb <;> simp only [isAlloc, Bool.false_eq_true] at ob
    rename_i z e z' e'
    simp only [awLexW, hi, hj, hin', hjn', if_true, if_false, awOp, aop] at h ⊢
    intro x hx
    refine ⟨fun y hy => ?_, fun y hy => ⟨fun w hw => ?_, ?_⟩⟩
    · by_cases hyx : y = x
      · subst hyx
        -- a second fresh block, apart from the first
        have hH : ∀ b, H b = none → Agree B H0 (H.set b (.box z')) := fun b hb => (h b hb).1
        have := hH y hx y hy
        rw [AHeap.set_same] at this
        have h0 := ha y hy
        rw [hx] at h0
        rw [← h0] at this
        cases this
      · rw [AHeap.set_ne _ _ hyx]; exact ha y hy
    · have hyx : y ≠ x := by rintro rfl; rw [AHeap.set_same] at hy; cases hy
      have hyn : H y = none := by rwa [AHeap.set_ne _ _ hyx] at hy
      have hwx : w ≠ x := by
        rintro rfl
        have := (h w hx).1 w hw
        rw [AHeap.set_same] at this
        have h0 := ha w hw
        rw [hx] at h0
        rw [← h0] at this
        cases this
      have hwy : w ≠ y := by
        rintro rfl
        have := (h w hyn).1 w hw
        rw [AHeap.set_same] at this
        have h0 := ha w hw
        rw [hyn] at h0
        rw [← h0] at this
        cases this
      rw [AHeap.set_ne _ _ hwy, AHeap.set_ne _ _ hwx]; exact ha w hw
    · have hyx : y ≠ x := by rintro rfl; rw [AHeap.set_same] at hy; cases hy
      have hyn : H y = none := by rwa [AHeap.set_ne _ _ hyx] at hy
      have := ((h y hyn).2 x (by rw [AHeap.set_ne _ _ (Ne.symm hyx)]; exact hx)).2
      rw [putD_comm fun s hs => (h1 s hs).2, set_comm_heap hyx.symm]
      exact this

theorem lexF_bubble {P : Program} {n : Nat} {eff : Nat → Bool} {B : List Nat} {H0 : AHeap} {K : Env → AHeap → Prop} {Kp : Value → AHeap → Prop} {i : Nat} {a : AI} {post : List (Nat × AI)} : ∀ (pre : List (Nat × AI)) (env : Env) (H : AHeap), (pre ≠ [] → Agree B H0 H) →
    (∀ p ∈ pre, i < n ∧ p.1 < n ∧ ((eff p.1 = false ∧ apart a p.2 = true) ∨ (eff i = true ∧ eff p.1 = true ∧ apart a p.2 = true ∧ isAlloc a.op = true ∧ isAlloc p.2.op = true ∧ a.g = none ∧ p.2.g = none))) →
    awLexW P n eff B H0 K Kp (pre ++ (i, a) :: post) env H → awLexW P n eff B H0 K Kp ((i, a) :: (pre ++ post)) env H
  | [], env, H, ha, hp, h => h
  | (j, b) :: pre, env, H, ha, hp, h => by
    have ha' := ha (by simp)
    obtain ⟨q1, q2, q3⟩ := hp (j, b) (by simp)
    refine lexF_swap ha' q1 q2 q3 ?_
    simp only [List.cons_append] at h ⊢
    rw [awLexW] at h ⊢
    have q2' : ¬ n ≤ j := by simp only at q2; omega
    rw [if_neg q2'] at h ⊢
    split at h
    · rename_i hj
      rw [if_pos hj]
      exact awOp_mono (fun e H he => ⟨he.1, lexF_bubble pre _ _ (fun _ => he.1) (fun p hp' => hp p (by simp [hp'])) he.2⟩) (fun _ _ hv => hv) h
    · rename_i hj
      rw [if_neg hj]
      obtain ⟨u, hu, h⟩ := h
      exact ⟨u, hu, lexF_bubble pre _ _ (fun _ => ha') (fun p hp' => hp p (by simp [hp'])) h⟩

theorem awAny_of_lexW {P : Program} {ops : List (AI × List Nat)} {n : Nat} {eff : Nat → Bool} {B : List Nat} {H0 : AHeap} (hok : lexOKF ops n eff = true) {K : Env → AHeap → Prop} {Kp : Value → AHeap → Prop} :
    ∀ (f : Nat) (listed : List Nat) (rem : List (Nat × AI)) (env : Env) (H : AHeap), ((∃ p ∈ rem, p.1 < n) → Agree B H0 H) → rem.length ≤ f → LexInv ops listed rem → awLexW P n eff B H0 K Kp rem env H → awAny P ops K Kp f listed env H := by
  have hst : ∀ i a l, ops[i]? = some (a, l) → (∀ j ∈ l, j < i) ∧ ∀ j, j < i → lexPairF ops n eff ((clos [] ops).getD i 0) i a j = true := by
    intro i a l ho
    unfold lexOKF at hok
    have hlt : i < ops.length := (List.getElem?_eq_some_iff.1 ho).1
    have := (List.all_eq_true.1 hok) i (by simpa using hlt)
    rw [ho] at this
    simp only [Bool.and_eq_true, List.all_eq_true, decide_eq_true_eq, List.mem_range] at this
    exact ⟨this.1, this.2⟩
  have hready : ∀ listed rem i a rest, LexInv ops listed rem → rem = (i, a) :: rest → readyL ops listed ≠ [] := by
    intro listed rem i a rest hi e hr
    subst e
    obtain ⟨h1, l, ho⟩ := (hi.mem i a).1 (by simp)
    have hall : ∀ j ∈ l, j ∈ listed := by
      intro j hj
      have hji := (hst i a l ho).1 j hj
      by_cases hjl : j ∈ listed
      · exact hjl
      · exfalso
        have hlt : i < ops.length := (List.getElem?_eq_some_iff.1 ho).1
        have hj' : j < ops.length := by omega
        have hm := (hi.mem j (ops[j]).1).2 ⟨hjl, (ops[j]).2, by simp [List.getElem?_eq_getElem hj']⟩
        have hs := hi.sorted
        rw [List.pairwise_cons] at hs
        rcases List.mem_cons.1 hm with e | hm
        · injection e with e1 e2; omega
        · have := hs.1 _ hm
          simp only at this; omega
    have : i ∈ readyL ops listed := by
      unfold readyL
      simp only [List.mem_filter, List.mem_range, Bool.and_eq_true, Bool.not_eq_true']
      refine ⟨(List.getElem?_eq_some_iff.1 ho).1, by simpa using h1, ?_⟩
      rw [ho]
      simpa using hall
    rw [hr] at this
    simp at this
  intro f
  induction f with
  | zero =>
    intro listed rem env H ha hl hi h
    have : rem = [] := by simpa using hl
    subst this
    refine ⟨?_, h⟩
    unfold readyL
    rw [List.filter_eq_nil_iff]
    intro i hi' hcon
    simp only [List.mem_range] at hi'
    have := (hi.mem i (ops[i]).1).2 ⟨by simp only [Bool.and_eq_true, Bool.not_eq_true'] at hcon; simpa using hcon.1, (ops[i]).2, by simp [List.getElem?_eq_getElem hi']⟩
    simp at this
  | succ f ih =>
    intro listed rem env H ha hl hi h
    refine ⟨fun e => ?_, fun i hr => ?_⟩
    · cases rem with
      | nil => exact h
      | cons p rest => exact absurd e (hready listed _ p.1 p.2 rest hi rfl)
    · unfold readyL at hr
      simp only [List.mem_filter, List.mem_range, Bool.and_eq_true, Bool.not_eq_true'] at hr
      obtain ⟨hlt, hnl, haft⟩ := hr
      have hnl : i ∉ listed := by simpa using hnl
      cases ho : ops[i]? with
      | none => simp [List.getElem?_eq_getElem hlt] at ho
      | some p =>
        obtain ⟨a, l⟩ := p
        rw [ho] at haft
        simp only [List.all_eq_true] at haft
        have haft : ∀ j ∈ l, j ∈ listed := fun j hj => by simpa using haft j hj
        have hm := (hi.mem i a).2 ⟨hnl, l, ho⟩
        obtain ⟨pre, post, e⟩ := List.append_of_mem hm
        subst e
        have hcl := clos_listed hi.closed i (fun p hp j hj => by rw [ho] at hp; injection hp with hp; subst hp; exact haft j hj)
        have hs := hi.sorted
        rw [List.pairwise_append] at hs
        have hpre : ∀ q ∈ pre, i < n ∧ q.1 < n ∧ ((eff q.1 = false ∧ apart a q.2 = true) ∨ (eff i = true ∧ eff q.1 = true ∧ apart a q.2 = true ∧ isAlloc a.op = true ∧ isAlloc q.2.op = true ∧ a.g = none ∧ q.2.g = none)) := (fun q hq => by
          obtain ⟨j, b⟩ := q
          have hji : j < i := hs.2.2 _ hq (i, a) (by simp)
          obtain ⟨hjl, l', hoj⟩ := (hi.mem j b).1 (by simp [hq])
          have := (hst i a l ho).2 j hji
          unfold lexPairF at this
          rw [hoj] at this
          simp only [Bool.or_eq_true, Bool.and_eq_true, Bool.not_eq_true', Option.isNone_iff_eq_none, decide_eq_true_eq] at this
          rcases this with h1 | ⟨h0, h1 | ⟨⟨⟨⟨⟨⟨h1, h2⟩, h3⟩, h4⟩, h5⟩, h6⟩, h7⟩⟩
          · exact absurd (hcl j h1) hjl
          · exact ⟨h0, by simp only; omega, .inl h1⟩
          · exact ⟨h0, by simp only; omega, .inr ⟨h1, h2, h3, h4, h5, h6, h7⟩⟩)
        have hb := lexF_bubble (P := P) (K := K) (Kp := Kp) (n := n) (eff := eff) (B := B) (H0 := H0) (i := i) (a := a) (post := post) pre env H (fun hne => by
          obtain ⟨q, hq⟩ := List.exists_mem_of_ne_nil _ hne
          exact ha ⟨(i, a), by simp, (hpre q hq).1⟩) hpre h
        have hrem : (∃ p ∈ pre ++ post, p.1 < n) → i < n := by
          rintro ⟨p, hp, hpn⟩
          rcases List.mem_append.1 hp with hp | hp
          · exact (hpre p hp).1
          · have := hs.2.1
            rw [List.pairwise_cons] at this
            have : i < p.1 := this.1 _ hp
            omega
        have hinv : LexInv ops (i :: listed) (pre ++ post) := by
          have hp : ∀ q ∈ pre ++ post, q.1 ≠ i := by
            intro q hq
            rcases List.mem_append.1 hq with hq | hq
            · have : q.1 < i := hs.2.2 _ hq (i, a) (by simp)
              omega
            · have := hs.2.1
              rw [List.pairwise_cons] at this
              have : i < q.1 := this.1 _ hq
              omega
          refine ⟨fun j b => ?_, ?_, ?_⟩
          · have := hi.mem j b
            constructor
            · intro hjm
              have hne := hp _ hjm
              obtain ⟨h1, h2⟩ := this.1 (by rcases List.mem_append.1 hjm with h | h <;> simp [h])
              exact ⟨by simp only [List.mem_cons, not_or]; exact ⟨hne, h1⟩, h2⟩
            · rintro ⟨h1, h2⟩
              simp only [List.mem_cons, not_or] at h1
              have := this.2 ⟨h1.2, h2⟩
              simp only [List.mem_append, List.mem_cons] at this ⊢
              rcases this with h | h | h
              · exact .inl h
              · injection h with e1 e2; exact absurd e1 h1.1
              · exact .inr h
          · rw [List.pairwise_append]
            refine ⟨hs.1, (List.pairwise_cons.1 hs.2.1).2, fun q hq r hr => hs.2.2 q hq r (by simp [hr])⟩
          · intro j hj p hp' m hm'
            rcases List.mem_cons.1 hj with rfl | hj
            · rw [ho] at hp'
              injection hp' with hp'
              subst hp'
              simp [haft m hm']
            · simp [hi.closed j hj p hp' m hm']
        have hlen : (pre ++ post).length ≤ f := by
          simp only [List.length_append, List.length_cons] at hl ⊢
          omega
        simp only [awLexW] at hb
        split at hb
        · rename_i hge
          exact awOp_mono (fun e H he => ih _ _ _ _ (fun hex => by have := hrem hex; omega) hlen hinv he) (fun v H hv => hv) hb
        · rename_i hge
          have hA := ha ⟨(i, a), by simp, by simp only; omega⟩
          split at hb
          · exact awOp_mono (fun e H he => ih _ _ _ _ (fun _ => he.1) hlen hinv he.2) (fun v H hv => hv) hb
          · obtain ⟨v, q, hr⟩ := hb
            exact (q H hA).awOp (ih _ _ _ _ (fun _ => hA) hlen hinv hr)

theorem lexInv_start (ops : List (AI × List Nat)) : LexInv ops [] (numL ops 0) := by
  refine ⟨fun i a => ?_, ?_, fun i hi => by simp at hi⟩
  · simp only [numL, List.mem_map, List.not_mem_nil, not_false_eq_true, true_and]
    constructor
    · rintro ⟨⟨⟨a', l⟩, j⟩, hm, e⟩
      injection e with e1 e2
      subst e1 e2
      obtain ⟨h1, h2, h3⟩ := List.mem_zipIdx hm
      refine ⟨l, ?_⟩
      simp only [Nat.zero_add] at h2
      simp only [Nat.sub_zero] at h3
      rw [List.getElem?_eq_getElem h2, ← h3]
    · rintro ⟨l, ho⟩
      refine ⟨((a, l), i), ?_, rfl⟩
      rw [List.mem_zipIdx_iff_getElem?]
      exact ho
  · unfold numL
    rw [List.pairwise_map]
    have : (List.map Prod.snd (ops.zipIdx 0)).Pairwise (· < ·) := by
      rw [zipIdx_snd]
      exact List.pairwise_lt_range'
    rwa [List.pairwise_map] at this

/-- The textual order serves, where what is read beside an effect lies in the blocks B, which no effect writes; from the n-th operation on each waits for all before it. -/
theorem aw_dreg_lexF {P : Program} {K : AK} {env : Env} {H : AHeap} {ops : List (AI × List Nat)} {kill : List Nat} (n : Nat) (eff : Nat → Bool) (B : List Nat) (hok : lexOKF ops n eff = true)
    (h : awLexF P n eff B H (fun env' H' => K .norm (env'.kill kill) H') (fun pv H' => K (.pan pv) [] H') (numL ops 0) env H) : aw P (.dreg ops kill) K env H := by
  show awAny P ops _ _ _ _ _ _
  exact awAny_of_lexW hok _ _ (numL ops 0) env H (fun _ => fun b hb => rfl) (by simp [numL]) (lexInv_start ops) (awLexF_W _ _ _ h)
end Go.Av

namespace Go.Av
attribute [simp] seqK_norm seqK_ret seqK_exit seqK_pan blockK_norm blockK_ret blockK_pan blockK_exit regK_eq panK_eq aw_skip aw_ret aw_exit condQ_true condQ_false
attribute [simp] opK_eq awOps_nil awOps_cons awOps_grd grdQ_tt grdQ_ff grdQ_tf grdQ_ft grdQ_sk putD_some putD_none ev_t ev_c
attribute [simp] r_mov r_pick r_ld r_nilc r_bin r_beq r_ieqn r_not r_conv r_b2s r_fa r_fld r_ixa r_ix r_sls r_sll r_lenl r_lens r_mn r_mx r_build r_ext r_mkfn r_mkif r_tas r_neg r_i2s r_s2b r_mkm r_mpl r_mpu r_alloc r_allb r_box r_st callK_ret callK_pan r_call r_bsl r_bso r_app r_pan
attribute [simp] Env.get Env.set Env.kill argEnv ibin sbin lohi AV.size AV.sizes AV.at_ AV.offs AV.put partsOk setAll
end Go.Av
namespace Go.Av
section
variable {P : Program} {K : AK} {Ke : Env → AHeap → Prop} {Kp : Value → AHeap → Prop} {env : Env} {H : AHeap}
@[simp low] theorem condQ_b (t : Bool) (a b : AC) : condQ P (.bool t) a b K env H = ((t = true → aw P a K env H) ∧ (t = false → aw P b K env H)) := Eq.trans rfl rfl
@[simp low] theorem grdQ_b (t want : Bool) (d : Option Nat) (op : AOp) (rest : List AI) : grdQ P (.bool t) want d op rest Ke Kp env H = ((t = want → aop P H env op (opK P rest Ke Kp env d) Kp) ∧ (t = !want → awOps P rest Ke Kp (putD env d (.tuple [])) H)) := Eq.trans rfl rfl
end
theorem retK_ret {rs : List ARV} {post : ARes → AHeap → Prop} {env : Env} {H : AHeap} : retK rs post .ret env H = resK env H rs (fun l => ∃ v' H', Sub (resV l) v' ∧ HLe H' H ∧ post (.ret v') H') := Eq.trans rfl rfl
theorem retK_norm {rs : List ARV} {post : ARes → AHeap → Prop} {env : Env} {H : AHeap} : retK rs post .norm env H = resK env H rs (fun l => ∃ v' H', Sub (resV l) v' ∧ HLe H' H ∧ post (.ret v') H') := Eq.trans rfl rfl
theorem retK_pan {rs : List ARV} {post : ARes → AHeap → Prop} {env : Env} {H : AHeap} {pv : Value} : retK rs post (.pan pv) env H = ∃ H', HLe H' H ∧ post (.pan pv) H' := Eq.trans rfl rfl
theorem resK_nil {env : Env} {H : AHeap} {k : List AV → Prop} : resK env H [] k = k [] := Eq.trans rfl rfl
theorem resK_tmp {env : Env} {H : AHeap} {t : Nat} {rs : List ARV} {k : List AV → Prop} : resK env H (.tmp t :: rs) k = resK env H rs (fun l => (env.get t).sto = true ∧ k (env.get t :: l)) := Eq.trans rfl rfl
theorem resK_cell {env : Env} {H : AHeap} {a s : Nat} {g : Bool} {rs : List ARV} {k : List AV → Prop} : resK env H (.cell a g s :: rs) k = (match env.get a with
    | .ptr b off p => match H b with
      | some (.box c) => ∃ v, c.at_ p = some v ∧ (c.offs p = off ∧ v.size = s ∧ v.isAgg = g) ∧ resK env H rs fun l => k (v :: l)
      | _ => False
    | _ => False) := Eq.trans rfl rfl
attribute [simp] retK_ret retK_norm retK_pan resK_nil resK_tmp resK_cell resV

/-- The result as it is. -/
theorem ret_same {v : AV} {H : AHeap} {post : ARes → AHeap → Prop} (h : post (.ret v) H) : ∃ v' H', Sub v v' ∧ HLe H' H ∧ post (.ret v') H' := ⟨v, H, .refl _, .refl _, h⟩
theorem ret_sub {v v' : AV} {H : AHeap} {post : ARes → AHeap → Prop} (hs : Sub v v') (h : post (.ret v') H) : ∃ v' H', Sub v v' ∧ HLe H' H ∧ post (.ret v') H' := ⟨v', H, hs, .refl _, h⟩
end Go.Av
namespace Go.Av
/-- Behind a loop's body. -/
def loopK {σ : Type} (Inv : σ → Prop) (E : σ → Env) (Hp : σ → AHeap) (μ : σ → Nat) (m : Nat) (K : AK) : AK := thenK (fun env' H' => ∃ y, Inv y ∧ μ y < m ∧ EnvLe env' (E y) ∧ HLe (Hp y) H') K
section
variable {σ : Type} {Inv : σ → Prop} {E : σ → Env} {Hp : σ → AHeap} {μ : σ → Nat} {m : Nat} {K : AK} {env : Env} {H : AHeap}
theorem loopK_exit (i : Nat) : loopK Inv E Hp μ m K (.exit i) env H = K (.exit i) env H := Eq.trans rfl rfl
theorem loopK_ret : loopK Inv E Hp μ m K .ret env H = K .ret env H := Eq.trans rfl rfl
theorem loopK_pan (v : Value) : loopK Inv E Hp μ m K (.pan v) env H = K (.pan v) env H := Eq.trans rfl rfl
theorem loopK_norm : loopK Inv E Hp μ m K .norm env H = ∃ y, Inv y ∧ μ y < m ∧ EnvLe env (E y) ∧ HLe (Hp y) H := Eq.trans rfl rfl
attribute [simp] loopK_exit loopK_ret loopK_pan
theorem loopK_next (y : σ) (hi : Inv y) (hm : μ y < m) (he : EnvLe env (E y)) (hh : HLe (Hp y) H) : loopK Inv E Hp μ m K .norm env H := ⟨y, hi, hm, he, hh⟩
/-- As 'loopK_next', where the state is met exactly. -/
theorem loopK_same (y : σ) (hi : Inv y) (hm : μ y < m) (he : env = E y) (hh : Hp y = H) : loopK Inv E Hp μ m K .norm env H := ⟨y, hi, hm, he ▸ EnvLe.refl _, hh ▸ HLe.refl _⟩
end
theorem aw_loopK {σ : Type} {P : Program} {a : AC} {K : AK} (Inv : σ → Prop) (E : σ → Env) (Hp : σ → AHeap) (μ : σ → Nat) (x0 : σ)
    {env : Env} {H : AHeap} (hi : Inv x0) (he : env = E x0) (hh : H = Hp x0) (hstep : ∀ x, Inv x → aw P a (loopK Inv E Hp μ (μ x) K) (E x) (Hp x)) : aw P (.loop a) K env H :=
  aw_loop Inv E Hp μ hstep ⟨x0, hi, he ▸ EnvLe.refl _, hh ▸ HLe.refl _⟩

theorem wrap64 {n : Int} (h1 : -9223372036854775808 ≤ n) (h2 : n < 9223372036854775808) : IntKind.i64.wrap n = n := by
  simp [IntKind.wrap, IntKind.signed, IntKind.bits]; omega
theorem wrap8 {n : Int} (h1 : 0 ≤ n) (h2 : n < 256) : IntKind.u8.wrap n = n := by
  simp [IntKind.wrap, IntKind.signed, IntKind.bits]; omega
end Go.Av
namespace Go.Av
attribute [simp] AHeap.set_same
@[simp] theorem AHeap.set_set (H : AHeap) (b : Nat) (o o' : AObj) : (H.set b o).set b o' = H.set b o' := by
  funext x
  simp only [AHeap.set]
  split <;> rfl
end Go.Av
namespace Go.Av
@[simp] theorem sto_bool (b : Bool) : AV.sto (AV.bool b) = true := Eq.trans rfl rfl
@[simp] theorem isAgg_bool (b : Bool) : AV.isAgg (AV.bool b) = false := Eq.trans rfl rfl
@[simp] theorem asList_bool (b : Bool) : AV.asList (AV.bool b) = none := Eq.trans rfl rfl
@[simp] theorem asInt_bool (b : Bool) : AV.asInt (AV.bool b) = none := Eq.trans rfl rfl
@[simp] theorem sto_int (k : IntKind) (n : Int) : AV.sto (AV.int k n) = true := Eq.trans rfl rfl
@[simp] theorem isAgg_int (k : IntKind) (n : Int) : AV.isAgg (AV.int k n) = false := Eq.trans rfl rfl
@[simp] theorem asList_int (k : IntKind) (n : Int) : AV.asList (AV.int k n) = none := Eq.trans rfl rfl
@[simp] theorem asInt_int (k : IntKind) (n : Int) : AV.asInt (AV.int k n) = some n := Eq.trans rfl rfl
@[simp] theorem sto_str (s : List UInt8) : AV.sto (AV.str s) = true := Eq.trans rfl rfl
@[simp] theorem isAgg_str (s : List UInt8) : AV.isAgg (AV.str s) = false := Eq.trans rfl rfl
@[simp] theorem asList_str (s : List UInt8) : AV.asList (AV.str s) = none := Eq.trans rfl rfl
@[simp] theorem asInt_str (s : List UInt8) : AV.asInt (AV.str s) = none := Eq.trans rfl rfl
@[simp] theorem sto_struct (l : List AV) : AV.sto (AV.struct l) = true := Eq.trans rfl rfl
@[simp] theorem isAgg_struct (l : List AV) : AV.isAgg (AV.struct l) = true := Eq.trans rfl rfl
@[simp] theorem asList_struct (l : List AV) : AV.asList (AV.struct l) = none := Eq.trans rfl rfl
@[simp] theorem asInt_struct (l : List AV) : AV.asInt (AV.struct l) = none := Eq.trans rfl rfl
@[simp] theorem sto_list (z : Nat) (l : List AV) : AV.sto (AV.list z l) = true := Eq.trans rfl rfl
@[simp] theorem isAgg_list (z : Nat) (l : List AV) : AV.isAgg (AV.list z l) = false := Eq.trans rfl rfl
@[simp] theorem asList_list (z : Nat) (l : List AV) : AV.asList (AV.list z l) = some (z, l) := Eq.trans rfl rfl
@[simp] theorem asInt_list (z : Nat) (l : List AV) : AV.asInt (AV.list z l) = none := Eq.trans rfl rfl
@[simp] theorem sto_own (z : Nat) (l : List AV) (b : Nat) : AV.sto (AV.own z l b) = true := Eq.trans rfl rfl
@[simp] theorem isAgg_own (z : Nat) (l : List AV) (b : Nat) : AV.isAgg (AV.own z l b) = false := Eq.trans rfl rfl
@[simp] theorem asList_own (z : Nat) (l : List AV) (b : Nat) : AV.asList (AV.own z l b) = some (z, l) := Eq.trans rfl rfl
@[simp] theorem asInt_own (z : Nat) (l : List AV) (b : Nat) : AV.asInt (AV.own z l b) = none := Eq.trans rfl rfl
@[simp] theorem sto_nils  : AV.sto AV.nils = true := Eq.trans rfl rfl
@[simp] theorem isAgg_nils  : AV.isAgg AV.nils = false := Eq.trans rfl rfl
@[simp] theorem asList_nils  : AV.asList AV.nils = some (0, []) := Eq.trans rfl rfl
@[simp] theorem asInt_nils  : AV.asInt AV.nils = none := Eq.trans rfl rfl
@[simp] theorem sto_ptr (b o : Nat) (p : List Nat) : AV.sto (AV.ptr b o p) = true := Eq.trans rfl rfl
@[simp] theorem isAgg_ptr (b o : Nat) (p : List Nat) : AV.isAgg (AV.ptr b o p) = false := Eq.trans rfl rfl
@[simp] theorem asList_ptr (b o : Nat) (p : List Nat) : AV.asList (AV.ptr b o p) = none := Eq.trans rfl rfl
@[simp] theorem asInt_ptr (b o : Nat) (p : List Nat) : AV.asInt (AV.ptr b o p) = none := Eq.trans rfl rfl
@[simp] theorem sto_view (v : AV) : AV.sto (AV.view v) = true := Eq.trans rfl rfl
@[simp] theorem isAgg_view (v : AV) : AV.isAgg (AV.view v) = false := Eq.trans rfl rfl
@[simp] theorem asList_view (v : AV) : AV.asList (AV.view v) = none := Eq.trans rfl rfl
@[simp] theorem asInt_view (v : AV) : AV.asInt (AV.view v) = none := Eq.trans rfl rfl
@[simp] theorem sto_fn (f : Fn) (x y : List AV) : AV.sto (AV.fn f x y) = true := Eq.trans rfl rfl
@[simp] theorem isAgg_fn (f : Fn) (x y : List AV) : AV.isAgg (AV.fn f x y) = false := Eq.trans rfl rfl
@[simp] theorem asList_fn (f : Fn) (x y : List AV) : AV.asList (AV.fn f x y) = none := Eq.trans rfl rfl
@[simp] theorem asInt_fn (f : Fn) (x y : List AV) : AV.asInt (AV.fn f x y) = none := Eq.trans rfl rfl
@[simp] theorem sto_tuple (l : List AV) : AV.sto (AV.tuple l) = false := Eq.trans rfl rfl
@[simp] theorem isAgg_tuple (l : List AV) : AV.isAgg (AV.tuple l) = false := Eq.trans rfl rfl
@[simp] theorem asList_tuple (l : List AV) : AV.asList (AV.tuple l) = none := Eq.trans rfl rfl
@[simp] theorem asInt_tuple (l : List AV) : AV.asInt (AV.tuple l) = none := Eq.trans rfl rfl
@[simp] theorem sto_iface (t : TypeId) (v : AV) : AV.sto (AV.iface t v) = true := Eq.trans rfl rfl
@[simp] theorem isAgg_iface (t : TypeId) (v : AV) : AV.isAgg (AV.iface t v) = false := Eq.trans rfl rfl
@[simp] theorem asList_iface (t : TypeId) (v : AV) : AV.asList (AV.iface t v) = none := Eq.trans rfl rfl
@[simp] theorem asInt_iface (t : TypeId) (v : AV) : AV.asInt (AV.iface t v) = none := Eq.trans rfl rfl
@[simp] theorem sto_nilp  : AV.sto AV.nilp = true := Eq.trans rfl rfl
@[simp] theorem isAgg_nilp  : AV.isAgg AV.nilp = false := Eq.trans rfl rfl
@[simp] theorem asList_nilp  : AV.asList AV.nilp = none := Eq.trans rfl rfl
@[simp] theorem asInt_nilp  : AV.asInt AV.nilp = none := Eq.trans rfl rfl
@[simp] theorem sto_nilf  : AV.sto AV.nilf = true := Eq.trans rfl rfl
@[simp] theorem isAgg_nilf  : AV.isAgg AV.nilf = false := Eq.trans rfl rfl
@[simp] theorem asList_nilf  : AV.asList AV.nilf = none := Eq.trans rfl rfl
@[simp] theorem asInt_nilf  : AV.asInt AV.nilf = none := Eq.trans rfl rfl
@[simp] theorem sto_nili  : AV.sto AV.nili = true := Eq.trans rfl rfl
@[simp] theorem isAgg_nili  : AV.isAgg AV.nili = false := Eq.trans rfl rfl
@[simp] theorem asList_nili  : AV.asList AV.nili = none := Eq.trans rfl rfl
@[simp] theorem asInt_nili  : AV.asInt AV.nili = none := Eq.trans rfl rfl
@[simp] theorem sto_undef  : AV.sto AV.undef = false := Eq.trans rfl rfl
@[simp] theorem isAgg_undef  : AV.isAgg AV.undef = false := Eq.trans rfl rfl
@[simp] theorem asList_undef  : AV.asList AV.undef = none := Eq.trans rfl rfl
@[simp] theorem asInt_undef  : AV.asInt AV.undef = none := Eq.trans rfl rfl
end Go.Av

namespace Go.Av
section
variable {P : Program} {eff : Nat → Bool} {K : Env → AHeap → Prop} {Kp : Value → AHeap → Prop} {env : Env} {H H0 : AHeap} {B : List Nat} {n i : Nat} {rest : List (Nat × AI)} {d : Option Nat} {op : AOp}

def qK (K : Env → Prop) (env : Env) (d : Option Nat) : AV → Prop := fun v => K (putD env d v)
theorem qK_eq {K : Env → Prop} {v : AV} : qK K env d v = K (putD env d v) := Eq.trans rfl rfl

def lexQ (P : Program) (eff : Nat → Bool) (K : Env → AHeap → Prop) (Kp : Value → AHeap → Prop) (rest : List (Nat × AI)) (H : AHeap) : Env → Prop := fun env' => awLex P eff K Kp rest env' H
theorem lexQ_eq : lexQ P eff K Kp rest H env = awLex P eff K Kp rest env H := Eq.trans rfl rfl
theorem awLex_nil : awLex P eff K Kp [] env H = K env H := Eq.trans rfl rfl
theorem awLex_q {ai : AI} (h : eff i = false) : awLex P eff K Kp ((i, ai) :: rest) env H = qOp P ai (lexQ P eff K Kp rest H) env H := by
  simp only [awLex, h, Bool.false_eq_true, if_false]; rfl
def lexE' (P : Program) (eff : Nat → Bool) (K : Env → AHeap → Prop) (Kp : Value → AHeap → Prop) (rest : List (Nat × AI)) (env : Env) (d : Option Nat) : AV → AHeap → Prop := fun v H' => awLex P eff K Kp rest (putD env d v) H'
theorem lexE'_eq {v : AV} : lexE' P eff K Kp rest env d v H = awLex P eff K Kp rest (putD env d v) H := Eq.trans rfl rfl
theorem awLex_e (h : eff i = true) : awLex P eff K Kp ((i, ⟨d, none, op⟩) :: rest) env H = aop P H env op (lexE' P eff K Kp rest env d) Kp := by
  simp only [awLex, h, if_true]; rfl

theorem qOp_none {K : Env → Prop} : qOp P ⟨d, none, op⟩ K env H = qop P H env op (qK K env d) := Eq.trans rfl rfl
def qgrd (P : Program) (v : AV) (want : Bool) (d : Option Nat) (op : AOp) (K : Env → Prop) (env : Env) (H : AHeap) : Prop := match v with
  | .bool b => (b = want → qop P H env op (qK K env d)) ∧ (b = !want → K (putD env d (.tuple [])))
  | .tuple [] => K (putD env d (.tuple []))
  | _ => False
theorem qOp_some {K : Env → Prop} {s : Nat} {want : Bool} : qOp P ⟨d, some (s, want), op⟩ K env H = qgrd P (env.get s) want d op K env H := by
  show qOp _ _ _ _ _ = _
  unfold qOp qgrd
  rfl
theorem qgrd_tt {K : Env → Prop} : qgrd P (.bool true) true d op K env H = qop P H env op (qK K env d) := by simp [qgrd]
theorem qgrd_ff {K : Env → Prop} : qgrd P (.bool false) false d op K env H = qop P H env op (qK K env d) := by simp [qgrd]
theorem qgrd_tf {K : Env → Prop} : qgrd P (.bool true) false d op K env H = K (putD env d (.tuple [])) := by simp [qgrd]
theorem qgrd_ft {K : Env → Prop} : qgrd P (.bool false) true d op K env H = K (putD env d (.tuple [])) := by simp [qgrd]
theorem qgrd_sk {K : Env → Prop} {want : Bool} : qgrd P (.tuple []) want d op K env H = K (putD env d (.tuple [])) := Eq.trans rfl rfl

def lexFQ (P : Program) (n : Nat) (eff : Nat → Bool) (B : List Nat) (H0 : AHeap) (K : Env → AHeap → Prop) (Kp : Value → AHeap → Prop) (rest : List (Nat × AI)) (H : AHeap) : Env → Prop := fun env' => awLexF P n eff B H0 K Kp rest env' H
theorem lexFQ_eq : lexFQ P n eff B H0 K Kp rest H env = awLexF P n eff B H0 K Kp rest env H := Eq.trans rfl rfl
theorem awLexF_nil : awLexF P n eff B H0 K Kp [] env H = K env H := Eq.trans rfl rfl
theorem awLexF_q {ai : AI} (h1 : i < n) (h : eff i = false) : awLexF P n eff B H0 K Kp ((i, ai) :: rest) env H = fOp P B H0 ai (lexFQ P n eff B H0 K Kp rest H) env := by
  have : ¬ n ≤ i := by omega
  simp only [awLexF, h, this, Bool.false_eq_true, if_false]; rfl
def lexFE (P : Program) (n : Nat) (eff : Nat → Bool) (B : List Nat) (H0 : AHeap) (K : Env → AHeap → Prop) (Kp : Value → AHeap → Prop) (rest : List (Nat × AI)) (env : Env) (d : Option Nat) : AV → AHeap → Prop := fun v H' => Agree B H0 H' ∧ awLexF P n eff B H0 K Kp rest (putD env d v) H'
theorem lexFE_eq {v : AV} : lexFE P n eff B H0 K Kp rest env d v H = (Agree B H0 H ∧ awLexF P n eff B H0 K Kp rest (putD env d v) H) := Eq.trans rfl rfl
theorem awLexF_e (h1 : i < n) (h : eff i = true) : awLexF P n eff B H0 K Kp ((i, ⟨d, none, op⟩) :: rest) env H = aop P H env op (lexFE P n eff B H0 K Kp rest env d) Kp := by
  have : ¬ n ≤ i := by omega
  simp only [awLexF, h, this, if_true, if_false]; rfl
def lexFT (P : Program) (n : Nat) (eff : Nat → Bool) (B : List Nat) (H0 : AHeap) (K : Env → AHeap → Prop) (Kp : Value → AHeap → Prop) (rest : List (Nat × AI)) (env : Env) (d : Option Nat) : AV → AHeap → Prop := fun v H' => awLexF P n eff B H0 K Kp rest (putD env d v) H'
theorem lexFT_eq {v : AV} : lexFT P n eff B H0 K Kp rest env d v H = awLexF P n eff B H0 K Kp rest (putD env d v) H := Eq.trans rfl rfl
theorem awLexF_t (h1 : n ≤ i) : awLexF P n eff B H0 K Kp ((i, ⟨d, none, op⟩) :: rest) env H = aop P H env op (lexFT P n eff B H0 K Kp rest env d) Kp := by
  simp only [awLexF, h1, if_true]; rfl
theorem fOp_none {K : Env → Prop} : fOp P B H0 ⟨d, none, op⟩ K env = (ldOk B env op ∧ qop P H0 env op (qK K env d)) := Eq.trans rfl rfl
end
attribute [simp] qK_eq lexQ_eq awLex_nil awLex_q lexE'_eq awLex_e qOp_none qOp_some qgrd_tt qgrd_ff qgrd_tf qgrd_ft qgrd_sk lexFQ_eq awLexF_nil awLexF_q lexFE_eq awLexF_e lexFT_eq awLexF_t fOp_none ldOk qop aval
end Go.Av
