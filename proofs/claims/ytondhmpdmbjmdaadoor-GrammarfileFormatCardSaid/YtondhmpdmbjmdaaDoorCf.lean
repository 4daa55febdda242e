/- Part of the proof: Cf. No condition. -/
import Derived.Test.YtondhmpdmbjmdaaDoorC17
set_option linter.unusedVariables false
set_option linter.unusedSimpArgs false
namespace Go.Av
def distF : List (List UInt8) → List (List UInt8) → Bool
  | _, [] => true
  | seen, s :: r => nameOK s && !(seen.any fun y => s == y) && distF (seen ++ [s]) r

theorem gf_distinct (v : AV) (s0 : Nat) (l : List (List UInt8)) (hv : v.asList = some (s0, l.map AV.str)) (hs0 : l.map AV.str = [] ∨ s0 = 1) (H : AHeap) :
    Pure gF_distinct_id [v] H (.bool (distF [] l)) := by
  refine gF_distinct_enter rfl ?_
  simp [gF_distinct_rs, hv]
  intro hm
  have hml := maxLen_eq
  refine aw_loopK (fun i : Nat => i ≤ l.length ∧ distF [] l = distF (l.take i) (l.drop i)) (fun i => [(0, v), (5, v), (6, i64 l.length), (7, i64 i)]) (fun _ => H) (fun i => l.length - i) 0 ⟨by simp, by simp⟩ rfl rfl ?_
  rintro i ⟨hi, hd⟩
  by_cases h : i < l.length
  · have hcc : l[i]? = some l[i] := List.getElem?_eq_getElem h
    have hsz : s0 = 1 := by
      rcases hs0 with h0 | h0
      · simp at h0; subst h0; simp at h
      · exact h0
    subst hsz
    have hdd : l.drop i = l[i] :: l.drop (i + 1) := List.drop_eq_getElem_cons h
    rw [hdd] at hd
    simp only [distF] at hd
    simp [h, hv, hcc]
    refine (gf_name l[i] H).use ?_
    cases hn : nameOK l[i]
    · simp [hd, hn]
    · simp [hv, show (i : Int) ≤ l.length from by omega, hi]
      rw [← List.map_take]
      refine (sl_Contains (.list 1 ((l.take i).map AV.str)) 1 (l.take i) rfl (.inr rfl) l[i] H).use ?_
      cases hc : (l.take i).any fun y => l[i] == y
      · simp
        refine loopK_same (i + 1) ⟨by omega, ?_⟩ (by omega) (by simp; exact wrap64 (by omega) (by omega)) rfl
        rw [hd, hn, hc]
        simp [h]
      · simp [hd, hn, hc]
  · have : i = l.length := by omega
    subst this
    simp [h, hd, distF]

def altOK (x : GA) : Bool := decide (0 ≤ x.price) && decide (x.price ≤ 1000) && exprOK 30 x.body

theorem gf_rule_1 (x : GA) (H : AHeap) : Pure gF_rule_1_id [x.av] H (.bool (!altOK x)) := by
  refine gF_rule_1_enter rfl ?_
  simp [gF_rule_1_rs, allocQ]
  intro b hb
  have hex := gf_expr 30 (by decide) x.body
  by_cases h1 : x.price < 0
  · have h1' : ¬ (0 ≤ x.price) := by omega
    simp [GA.av, h1, altOK, h1']
    exact .set hb
  · have h1' : (0 ≤ x.price) := by omega
    by_cases h2 : 1000 < x.price
    · have h2' : ¬ (x.price ≤ 1000) := by omega
      simp [GA.av, h1, h1', altOK, h2', h2]
      exact .set hb
    · have h2' : (x.price ≤ 1000) := by omega
      simp [GA.av, h1, h2, altOK, h2', h1']
      refine (hex _).use ?_
      simp
      exact .set hb

def ruleOK (x : GR) : Bool := decide (0 < x.alts.length) && !(x.alts.any fun a => !altOK a)

theorem gf_rule (x : GR) (H : AHeap) : Pure gF_rule_id [x.av] H (.bool (ruleOK x)) := by
  refine gF_rule_enter rfl ?_
  simp [gF_rule_rs, allocQ]
  intro b hb
  obtain ⟨nm, alts⟩ := x
  cases alts with
  | nil =>
    simp [GR.av, ruleOK]
    exact .set hb
  | cons a r =>
    have h0 : (0 : Int) < (r.length : Int) + 1 := by omega
    simp [GR.av, ruleOK, h0]
    intro _
    refine (sl_ContainsFunc_GAlternative (cap := []) gF_rule_1_id (a :: r) (fun a => !altOK a) _ fun y _ => gf_rule_1 y _).use ?_
    simp
    exact .set hb
end Go.Av

namespace Go.Av
theorem ACalls.sub {P : Program} {f : FuncId} {args args' : List AV} {H : AHeap} {post : ARes → AHeap → Prop} (hl : args.length = args'.length)
    (h : ∀ (j : Nat) v v', args[j]? = some v → args'[j]? = some v' → Sub v v') (hc : ACalls P f args' H post) : ACalls P f args H post :=
  ⟨hc.1, fun c us h1 h2 h3 h4 => hc.2 c us h1 h2 (h3.trans hl) fun j v' u hv hu => by
    have hj : j < args.length := by rw [hl]; exact (List.getElem?_eq_some_iff.1 hv).1
    exact (h4 j _ u (List.getElem?_eq_getElem hj) hu).sub (h j _ _ (List.getElem?_eq_getElem hj) hv)⟩

theorem ACalls.sub1 {P : Program} {f : FuncId} {v v' : AV} {H : AHeap} {post : ARes → AHeap → Prop} (h : Sub v v') (hc : ACalls P f [v'] H post) : ACalls P f [v] H post :=
  ACalls.sub (args := [v]) (args' := [v']) rfl (fun j a b ha hb => by
    cases j with
    | zero => simp at ha hb; subst ha hb; exact h
    | succ j => simp at ha) hc

structure GF where
  start : List UInt8
  levels : List GL
  rules : List GR
def GF.av (x : GF) : AV := .struct [.str x.start, .list 2 (x.levels.map GL.av), .list 2 (x.rules.map GR.av)]

@[simp] theorem GF.av_size (x : GF) : x.av.size = 3 := rfl
@[simp] theorem GF.av_agg (x : GF) : x.av.isAgg = true := rfl
@[simp] theorem GF.av_sto (x : GF) : x.av.sto = true := rfl

def lvOK (x : GL) : Bool := decide (1 ≤ x.assoc) && decide (x.assoc ≤ 3) && decide (0 < x.tokens.length)
def validM (x : GF) : Bool := decide (1 ≤ x.rules.length) && decide (x.rules.length ≤ 120) && x.rules.all ruleOK && x.levels.all lvOK &&
  distF [] (x.rules.map GR.name) && distF [] (x.levels.flatMap GL.tokens) && (x.rules.map GR.name).any fun y => x.start == y

structure VSt (α : Type) where
  v : AV
  H : AHeap
  done : List α
  rest : List α

set_option maxHeartbeats 2000000 in
theorem gf_Valid (x : GF) (hx : (x.levels.flatMap GL.tokens).length ≤ 1000000) (H : AHeap) : Pure gF_Valid_id [x.av] H (.bool (validM x)) := by
  obtain ⟨start, levels, rules⟩ := x
  simp only at hx
  refine gF_Valid_enter rfl ?_
  simp [gF_Valid_rs, allocQ, -gF_Valid_c1_eq]
  intro b1 hb1
  have q1 : (H.set b1 (.box (GF.av ⟨start, levels, rules⟩))) b1 = some (.box (.struct [.str start, .list 2 (levels.map GL.av), .list 2 (rules.map GR.av)])) := by rw [AHeap.set_same]; rfl
  have hle : HLe H (H.set b1 (.box (GF.av ⟨start, levels, rules⟩))) := .set hb1
  generalize (H.set b1 (.box (GF.av ⟨start, levels, rules⟩))) = H1 at q1 hle ⊢
  by_cases h1 : (rules.length : Int) < 1
  · have h1' : ¬ (1 : Int) ≤ rules.length := by omega
    have hv : validM ⟨start, levels, rules⟩ = false := by
      have : ¬ 1 ≤ rules.length := by omega
      simp [validM, this]
    rw [hv]
    simp [q1, h1, h1']
    exact fun _ => hle
  · by_cases h2 : (120 : Int) < rules.length
    · have h1' : (1 : Int) ≤ rules.length := by omega
      have hv : validM ⟨start, levels, rules⟩ = false := by
        have : ¬ rules.length ≤ 120 := by omega
        simp [validM, this]
      rw [hv]
      simp [q1, h1, h2, h1']
      exact fun _ => hle
    · have h1' : (1 : Int) ≤ rules.length := by omega
      have h2' : (rules.length : Int) ≤ 120 := by omega
      simp [q1, h1, h1', h2, h2']
      intro hm
      have hml := maxLen_eq
      refine aw_loopK (fun x : VSt GR => rules = x.done ++ x.rest ∧ x.done.all ruleOK = true ∧ Grows H1 9 1 ((x.done.map GR.name).map AV.str) x.v x.H)
        (fun x => [(1, .ptr b1 0 []), (3, x.v), (4, .nils), (20, .list 2 (rules.map GR.av)), (21, i64 rules.length), (22, i64 x.done.length)]) (fun x => x.H) (fun x => x.rest.length)
        ⟨.nils, H1, [], rules⟩ ⟨rfl, rfl, Grows.nil _ _ _⟩ rfl rfl ?_
      rintro ⟨v, Hs, done, rest⟩ ⟨he, hok, hg⟩
      simp only at he hok hg
      simp only
      cases rest with
      | cons r rest =>
        have hlt : (done.length : Int) < rules.length := by rw [he]; simp; omega
        have hat : rules[done.length]? = some r := by rw [he]; simp
        simp [hlt, hat, allocQ]
        intro b6 hb6
        have n16 : b1 ≠ b6 := ne_of_some_none (hg.get q1) hb6
        refine (gf_rule r _).use ?_
        cases hr : ruleOK r
        · have hv : validM ⟨start, levels, rules⟩ = false := by
            have : rules.all ruleOK = false := by rw [he]; simp [hr]
            simp [validM, this]
          rw [hv]
          simp
          exact (hle.trans hg.HLe).trans (.set hb6)
        · simp [GR.av]
          refine (hg.add (o := .box r.av) hb6).app (by simp; rw [he] at h2'; simp at h2'; omega) fun v' H' hg' => ?_
          obtain ⟨H3, hg3, hle3⟩ := hg'.drop (hg.base hb6)
          simp
          rw [wrap64 (by omega) (by omega)]
          refine loopK_next ⟨v', H3, done ++ [r], rest⟩ ⟨by rw [he]; simp, fun x hxm => (by rcases List.mem_append.1 hxm with h | h; exact List.all_eq_true.1 hok x h; simp at h; subst h; exact hr), by simpa using hg3⟩ (by simp) ?_ hle3
          simp
          exact EnvLe.refl _
      | nil =>
        have hdone : rules = done := by simpa using he
        subst hdone
        simp [hg.get q1]
        intro hm2
        refine aw_loopK (fun x : VSt GL => levels = x.done ++ x.rest ∧ x.done.all lvOK = true ∧ Grows Hs 9 1 ((x.done.flatMap GL.tokens).map AV.str) x.v x.H)
          (fun x => [(1, .ptr b1 0 []), (3, v), (4, x.v), (36, .list 2 (levels.map GL.av)), (37, i64 levels.length), (38, i64 x.done.length)]) (fun x => x.H) (fun x => x.rest.length)
          ⟨.nils, Hs, [], levels⟩ ⟨rfl, rfl, Grows.nil _ _ _⟩ rfl rfl ?_
        rintro ⟨v2, Ht, done, rest⟩ ⟨he2, hok2, hg2⟩
        simp only at he2 hok2 hg2
        simp only
        have q2 := hg2.get (hg.get q1)
        cases rest with
        | cons y rest =>
          have hlt : (done.length : Int) < levels.length := by rw [he2]; simp; omega
          have hat : levels[done.length]? = some y := by rw [he2]; simp
          simp [hlt, hat, allocQ, -gF_Valid_c31_eq]
          intro b6 hb6
          have n16 : b1 ≠ b6 := ne_of_some_none q2 hb6
          have bad : lvOK y = false → validM ⟨start, levels, rules⟩ = false ∧ HLe H (Ht.set b6 (.box y.av)) := by
            intro hy
            have : levels.all lvOK = false := by rw [he2]; simp [hy]
            exact ⟨by simp [validM, this], ((hle.trans hg.HLe).trans hg2.HLe).trans (.set hb6)⟩
          have q6 : (Ht.set b6 (.box y.av)) b6 = some (.box (.struct [i64 y.assoc, .list 1 (y.tokens.map AV.str)])) := by rw [AHeap.set_same]; rfl
          have hga := hg2.add (o := .box y.av) hb6
          generalize hHb : Ht.set b6 (.box y.av) = Hb at *
          by_cases a1 : y.assoc < 1
          · have a1' : ¬ 1 ≤ y.assoc := by omega
            obtain ⟨hv, hl⟩ := bad (by simp [lvOK, a1'])
            rw [hv]
            simp [q6, a1, a1']
            exact hl
          · have a1' : 1 ≤ y.assoc := by omega
            by_cases a2 : 3 < y.assoc
            · have a2' : ¬ y.assoc ≤ 3 := by omega
              obtain ⟨hv, hl⟩ := bad (by simp [lvOK, a2'])
              rw [hv]
              simp [q6, a1, a1', a2, a2']
              exact hl
            · have a2' : y.assoc ≤ 3 := by omega
              have cont : ∀ v' H', Grows (Hs.set b6 (.box y.av)) 9 1 ((done.flatMap GL.tokens).map AV.str ++ y.tokens.map AV.str) v' H' → lvOK y = true →
                  ∃ H3, Grows Hs 9 1 (((done ++ [y]).flatMap GL.tokens).map AV.str) v' H3 ∧ HLe H3 H' := by
                intro v' H' hg' _
                obtain ⟨H3, hg3, hle3⟩ := hg'.drop (hg2.base hb6)
                exact ⟨H3, by simpa using hg3, hle3⟩
              by_cases a3 : y.tokens = []
              · obtain ⟨hv, hl⟩ := bad (by simp [lvOK, a3])
                rw [hv]
                simp [q6, a1, a1', a2, a2', a3]
                exact hl
              · have a3b : (y.tokens.length == 0) = false := by simpa using a3
                simp [q6, a1, a1', a2, a2', a3, a3b]
                intro _
                have hlv : lvOK y = true := by
                  have : 0 < y.tokens.length := List.length_pos_iff.2 a3
                  simp [lvOK, a1', a2', this]
                refine hga.app (by simp; rw [he2] at hx; simp at hx; omega) fun v' H' hg' => ?_
                obtain ⟨H3, hg3, hle3⟩ := cont v' H' hg' hlv
                simp
                rw [wrap64 (by omega) (by omega)]
                refine loopK_next ⟨v', H3, done ++ [y], rest⟩ ⟨by rw [he2]; simp, fun x hxm => ?_, hg3⟩ (by simp) ?_ hle3
                · rcases List.mem_append.1 hxm with h | h
                  · exact List.all_eq_true.1 hok2 x h
                  · simp at h; subst h; exact hlv
                · simp
                  exact EnvLe.refl _
        | nil =>
          have hdone : levels = done := by simpa using he2
          subst hdone
          simp [q2]
          obtain ⟨s1, has1, hs1⟩ := hg.asList
          obtain ⟨s2, has2, hs2⟩ := hg2.asList
          have hv : validM ⟨start, levels, rules⟩ = (distF [] (rules.map GR.name) && distF [] (levels.flatMap GL.tokens) && (rules.map GR.name).any fun y => start == y) := by
            have e1 : 1 ≤ rules.length := by omega
            have e2 : rules.length ≤ 120 := by omega
            simp only [validM, hok, hok2, e1, e2, decide_true, Bool.true_and]
          have hall := (hle.trans hg.HLe).trans hg2.HLe
          refine (gf_distinct v s1 (rules.map GR.name) has1 hs1 Ht).use ?_
          rw [hv]
          cases hd1 : distF [] (rules.map GR.name)
          · simp
            exact hall
          · simp
            refine (gf_distinct v2 s2 (levels.flatMap GL.tokens) has2 hs2 Ht).use ?_
            cases hd2 : distF [] (levels.flatMap GL.tokens)
            · simp
              exact hall
            · simp [q2]
              refine (sl_Contains v s1 (rules.map GR.name) has1 hs1 start Ht).use ?_
              simp
              exact hall
end Go.Av
