/- Part of the proof: Dd. No condition. -/
import Derived.Test.YtidbbhdejopdgaaDc
set_option linter.unusedVariables false
set_option linter.unusedSimpArgs false
namespace Go.Av
def zGA : AV := .struct [.struct [.int .i64 0, .str [], .nils], .int .i64 0]

theorem mapM'_ok {α β : Type} {f : α → β} {r : PR α} {x : β} {l : List Tok} (h : mapM' f r = .ok (x, l)) : ∃ y, r = .ok (y, l) ∧ x = f y := by
  cases r with
  | error k => cases h
  | ok p =>
    obtain ⟨y, l'⟩ := p
    simp [mapM'] at h
    exact ⟨y, by rw [h.2], h.1.symm⟩
theorem mapM'_err {α β : Type} {f : α → β} {r : PR α} {k : Nat} (h : mapM' f r = .error k) : r = .error k := by
  cases r with
  | error k' => simpa [mapM'] using h
  | ok p => simp [mapM'] at h

theorem r17_alternative {s : List UInt8} (hs : s.length ≤ 1000000) {f : Nat} {bp : Nat} {l : List Tok} {bad : Bool} {H : AHeap} {post : ARes → AHeap → Prop} (hb : H bp = some (.box (rp s l bad))) (hl : Suf s l) (hf : 3 * l.length + 3 ≤ f)
    (hp : ∀ x l' bad', RRes s bad l (altM s.length f l) x l' bad' → post (.ret (GA.av x)) (H.set bp (.box (rp s l' bad')))) : ACalls PP ref17_parser_alternative_id [.ptr bp 0 []] H post := by
  have hll := suf_len hl
  refine ref17_parser_alternative_enter rfl ?_
  simp [ref17_parser_alternative_rs, allocQ]
  intro b2 hb2
  have ne := ne_of_some_none hb hb2
  have zs : zGA.size = 4 := rfl
  rw [show H.set b2 (.box (.struct [.struct [.int .i64 0, .str [], .nils], .int .i64 0])) = BB H bp b2 (rp s l bad) zGA from BB_start hb]
  refine (rReads hs f bp l bad _ _ (BB_bp ne) hl).1 hf fun x1 l1 b1 hr1 => ?_
  rw [BB_set ne]
  simp [allocQ]
  intro b3 hb3
  obtain ⟨n1, n2, n3⟩ := BB_none hb3 ne
  have hfin : ∀ y z' l' bd, HLe (H.set bp (.box (rp s l' bd))) (BBB H bp b2 b3 (rp s l' bd) z' y) := fun y z' l' bd => BBB_le ne hb2 n1 n2 n3
  rw [show (BB H bp b2 (rp s l1 b1) zGA).set b3 (.box (.struct [x1.av, .int .i64 0])) = BBB H bp b2 b3 (rp s l1 b1) zGA (.struct [x1.av, .int .i64 0]) from rfl]
  obtain ⟨hs1, hr1⟩ := hr1
  have hbs := BBB_bp (H := H) (x := rp s l1 b1) (z := zGA) (y := .struct [x1.av, .int .i64 0]) ne n1.symm
  refine (r17_is kwPrice hbs hs hs1).use ?_
  cases hc : (!b1 && (peekT s.length l1).text == kwPrice)
  · have hr : RRes s bad l (altM s.length f l) ⟨x1, 0⟩ l1 b1 := by
      refine ⟨hs1, ?_⟩
      cases bad with
      | true => exact hr1
      | false =>
        rcases hr1 with ⟨rfl, h⟩ | ⟨rfl, h⟩
        · obtain ⟨xs, h1, rfl⟩ := mapM'_ok h
          simp at hc
          exact .inl ⟨rfl, by rw [altM_eq, h1]; simp [hc]⟩
        · exact .inr ⟨rfl, by rw [altM_eq, mapM'_err h]; rfl⟩
    have hp := hp _ _ _ hr
    simp [BBB_b3, BBB_b2 (Ne.symm n2), zs, BBB_set2 (Ne.symm n2)]
    exact ⟨_, .refl _, _, hfin _ _ _ _, hp⟩
  · have hb1 : b1 = false := by cases b1; rfl; simp at hc
    subst hb1
    simp at hc
    have hb0 : bad = false := by
      cases bad with
      | false => rfl
      | true => obtain ⟨h, _⟩ := hr1; cases h
    subst hb0
    obtain ⟨xs, h1, hx1⟩ : ∃ xs, itemsM s.length f l = .ok (xs, l1) ∧ x1 = mkSeq 2 xs := by
      rcases hr1 with ⟨_, h⟩ | ⟨h, _⟩
      · exact mapM'_ok h
      · cases h
    subst hx1
    have halt : altM s.length f l = if (peekT s.length l1.tail).num < 0 then .error (peekT s.length l1.tail).at_ else .ok (⟨mkSeq 2 xs, (peekT s.length l1.tail).num⟩, l1.tail.tail) := by
      rw [altM_eq, h1, bindM_ok, if_pos (by simp [hc])]
    simp
    refine r17_adv hbs hs hs1 ?_
    rw [BBB_set ne n1.symm]
    simp
    refine r17_number (BBB_bp ne n1.symm) hs (suf_tail hs1) (fun _ hn => ?_) fun hn => ?_
    · rw [BBB_set ne n1.symm]
      have hp := hp ⟨mkSeq 2 xs, (peekT s.length l1.tail).num⟩ l1.tail.tail false ⟨suf_tail (suf_tail hs1), .inl ⟨rfl, by rw [halt, if_neg (by omega)]⟩⟩
      simp [BBB_b3, BBB_b2 (Ne.symm n2), zs, BBB_set2 (Ne.symm n2), BBB_set3]
      exact ⟨_, .refl _, _, hfin _ _ _ _, hp⟩
    · rw [BBB_set ne n1.symm]
      have hp := hp ⟨mkSeq 2 xs, 0⟩ l1.tail true ⟨suf_tail hs1, .inr ⟨rfl, by rw [halt, if_pos (by simpa using hn)]⟩⟩
      simp [BBB_b3, BBB_b2 (Ne.symm n2), zs, BBB_set2 (Ne.symm n2), BBB_set3]
      exact ⟨_, .refl _, _, hfin _ _ _ _, hp⟩
end Go.Av

namespace Go.Av
theorem RRes.bind {α β : Type} {s : List UInt8} {bad b1 b2 : Bool} {l l1 l2 : List Tok} {r : PR α} {F : α → List Tok → PR β} {x : α} {y : β} (h : RRes s bad l r x l1 b1) (k : RRes s b1 l1 (F x l1) y l2 b2) : RRes s bad l (bindM r F) y l2 b2 := by
  obtain ⟨h0, h⟩ := h
  obtain ⟨k0, k⟩ := k
  refine ⟨k0, ?_⟩
  cases bad with
  | true =>
    obtain ⟨rfl, rfl⟩ := h
    exact k
  | false =>
    rcases h with ⟨rfl, h⟩ | ⟨rfl, h⟩
    · rw [h]; exact k
    · obtain ⟨rfl, rfl⟩ := k
      exact .inr ⟨rfl, by rw [h]; rfl⟩
theorem RRes.ok {α : Type} {s : List UInt8} {bad : Bool} {l : List Tok} (h : Suf s l) (x : α) : RRes s bad l (.ok (x, l)) x l bad := by
  refine ⟨h, ?_⟩
  cases bad
  · exact .inl ⟨rfl, rfl⟩
  · exact ⟨rfl, rfl⟩

def nameB (e : Nat) (l : List Tok) : PR (List UInt8) := if isNameT (peekT e l) then .ok ((peekT e l).text, l.tail) else .error (peekT e l).at_

theorem ruleM_name (e f : Nat) (l : List Tok) : ruleM e f l = bindM (nameB e l) fun nm l => bindM (expB e [61] l) fun _ l0 => bindM (altM e f l0) fun a l1 => bindM (moreM e f l1) fun bs l2 => bindM (expB e [59] l2) fun _ l3 => .ok (⟨nm, a :: bs⟩, l3) := by
  rw [ruleM_eq]
  unfold nameB
  split <;> rfl

section
variable {bp : Nat} {s : List UInt8} {l : List Tok} {bad : Bool} {H : AHeap} {post : ARes → AHeap → Prop}
theorem r17_takeR (x : List UInt8) (hx : x ≠ []) (hb : H bp = some (.box (rp s l bad))) (hs : s.length ≤ 1000000) (hl : Suf s l)
    (hp : ∀ l' bad', RRes s bad l (expB s.length x l) () l' bad' → post (.ret (.tuple [])) (H.set bp (.box (rp s l' bad')))) : ACalls PP ref17_parser_take_id [.ptr bp 0 [], .str x] H post := by
  refine r17_take x hb hs hl ?_
  cases hc : (!bad && (peekT s.length l).text == x)
  · refine hp l true ⟨hl, ?_⟩
    cases bad with
    | true => exact ⟨rfl, rfl⟩
    | false =>
      simp at hc
      refine .inr ⟨rfl, ?_⟩
      cases l with
      | nil => rfl
      | cons t r =>
        simp at hc
        simp [expB, expM, hc]
  · have hb0 : bad = false := by cases bad; rfl; simp at hc
    subst hb0
    simp at hc
    refine hp l.tail false ⟨suf_tail hl, .inl ⟨rfl, ?_⟩⟩
    cases l with
    | nil => simp at hc; exact absurd hc hx
    | cons t r =>
      simp at hc
      simp [expB, expM, hc]

theorem r17_nameR (hb : H bp = some (.box (rp s l bad))) (hs : s.length ≤ 1000000) (hl : Suf s l)
    (hp : ∀ nm l' bad', RRes s bad l (nameB s.length l) nm l' bad' → post (.ret (.str nm)) (H.set bp (.box (rp s l' bad')))) : ACalls PP ref17_parser_name_id [.ptr bp 0 []] H post := by
  refine r17_name hb hs hl (fun hn => ?_) fun hn => ?_
  · have hb0 : bad = false := by cases bad; rfl; simp at hn
    subst hb0
    simp at hn
    exact hp _ _ _ ⟨suf_tail hl, .inl ⟨rfl, by simp [nameB, hn]⟩⟩
  · refine hp _ _ _ ⟨hl, ?_⟩
    cases bad with
    | true => exact ⟨rfl, rfl⟩
    | false =>
      simp at hn
      exact .inr ⟨rfl, by simp [nameB, hn]⟩
end

def zGR : AV := .struct [.str [], .nils]

/-- The loop over the alternatives of a rule: the first is read already. -/
def ruI (s : List UInt8) (H : AHeap) (bp b2 b3 f : Nat) (y : AV) (bad0 : Bool) (l0 : List Tok) (x0 : GA) (n : Nat) (x : RsSt GA) : Prop :=
  Grows (BBB H bp b2 b3 (rp s x.l x.bad) zGR y) 49 4 ((x0 :: x.done).map GA.av) x.v x.H ∧ Suf s x.l ∧ (x.bad = false → x.done.length + x.l.length ≤ n ∧ 3 * x.l.length + 1 ≤ x.g ∧ x.g ≤ f) ∧
    LoopAt s bad0 l0 (moreM s.length f l0) (moreM s.length x.g x.l) x.l x.bad x.done
def ruE (bp b2 b3 : Nat) (x : RsSt GA) : Env := [(0, .ptr bp 0 []), (2, .ptr b2 0 []), (3, .ptr b3 0 []), (4, x.v)]

theorem sub_rule {nm : List UInt8} {v : AV} {l : List GA} (h : Sub v (.list 4 (l.map GA.av))) : Sub (.struct [.str nm, v]) (GR.av ⟨nm, l⟩) := by
  unfold GR.av
  refine .struct rfl (fun j x y hx hy => ?_) (fun x hx => ?_)
  · match j with
    | 0 => simp at hx hy; subst hx hy; exact .refl _
    | 1 => simp at hx hy; subst hx hy; exact h
    | j + 2 => simp at hx
  · simp at hx
    rcases hx with rfl | rfl <;> simp

theorem LoopAt.done {α : Type} {s : List UInt8} {bad0 : Bool} {l0 : List Tok} {whole rest : PR (List α)} {l : List Tok} {bad : Bool} {done : List α} (hs : Suf s l) (h : LoopAt s bad0 l0 whole rest l bad done) (hr : bad = false → rest = .ok ([], l)) : RRes s bad0 l0 whole done l bad := by
  refine ⟨hs, ?_⟩
  unfold LoopAt at h
  cases bad0 with
  | true => simpa using h
  | false =>
    cases bad with
    | true => simp at h; exact .inr ⟨rfl, h⟩
    | false =>
      simp at h
      rw [hr rfl] at h
      exact .inl ⟨rfl, by rw [h]; simp [prepM]⟩

set_option maxHeartbeats 1000000 in
theorem r17_rule {s : List UInt8} (hs : s.length ≤ 1000000) {f : Nat} {bp : Nat} {l : List Tok} {bad : Bool} {H : AHeap} {post : ARes → AHeap → Prop} (hb : H bp = some (.box (rp s l bad))) (hl : Suf s l) (hf : 3 * s.length + 3 ≤ f)
    (hp : ∀ x l' bad', RRes s bad l (ruleM s.length f l) x l' bad' → post (.ret (GR.av x)) (H.set bp (.box (rp s l' bad')))) : ACalls PP ref17_parser_rule_id [.ptr bp 0 []] H post := by
  refine ref17_parser_rule_enter rfl ?_
  simp [ref17_parser_rule_rs, allocQ]
  intro b2 hb2
  have ne := ne_of_some_none hb hb2
  have zs : zGR.size = 2 := rfl
  rw [show H.set b2 (.box (.struct [.str [], .nils])) = BB H bp b2 (rp s l bad) zGR from BB_start hb]
  refine r17_nameR (BB_bp ne) hs hl fun nm l1 b1 hr1 => ?_
  rw [BB_set ne]
  simp [allocQ]
  intro b3 hb3
  obtain ⟨n1, n2, n3⟩ := BB_none hb3 ne
  have hfin : ∀ y z' l' bd, HLe (H.set bp (.box (rp s l' bd))) (BBB H bp b2 b3 (rp s l' bd) z' y) := fun y z' l' bd => BBB_le ne hb2 n1 n2 n3
  rw [show (BB H bp b2 (rp s l1 b1) zGR).set b3 (.box (.struct [.str nm, .nils])) = BBB H bp b2 b3 (rp s l1 b1) zGR (.struct [.str nm, .nils]) from rfl]
  refine r17_takeR [61] (by simp) (BBB_bp ne n1.symm) hs hr1.1 fun l2 b2' hr2 => ?_
  rw [BBB_set ne n1.symm]
  simp
  have hl2 := suf_len hr2.1
  refine r17_alternative (f := f) hs (BBB_bp ne n1.symm) hr2.1 (by omega) fun a l3 b3' hr3 => ?_
  rw [BBB_set ne n1.symm]
  simp
  intro b hb0
  have hl3 := suf_len hr3.1
  have hg0 : Grows (BBB H bp b2 b3 (rp s l3 b3') zGR (.struct [.str nm, .nils])) 49 4 [a.av] (.own 4 [a.av] b) ((BBB H bp b2 b3 (rp s l3 b3') zGR (.struct [.str nm, .nils])).set b (.row 1 4 49)) := .inr ⟨b, hb0, rfl, rfl⟩
  refine aw_loopK (ruI s H bp b2 b3 f (.struct [.str nm, .nils]) b3' l3 a s.length) (ruE bp b2 b3) (fun x => x.H) rsM ⟨.own 4 [a.av] b, _, l3, b3', [], f⟩ ⟨hg0, hr3.1, fun h => ⟨by simpa using hl3, by simp only; omega, Nat.le_refl _⟩, ?_⟩ rfl rfl ?_
  · unfold LoopAt
    cases b3'
    · exact (prepM_nil _).symm
    · exact ⟨rfl, rfl⟩
  rintro ⟨v, Hs, l', bd, done, g⟩ ⟨hg, hsuf, hn, he⟩
  simp only at hg hsuf hn he
  have hbs := hg.get (BBB_bp ne n1.symm)
  -- the end
  have close : RRes s b3' l3 (moreM s.length f l3) done l' bd → aw PP ref17_parser_rule_c19 (retK [.cell 2 true 2] post) [(0, .ptr bp 0 []), (2, .ptr b2 0 []), (3, .ptr b3 0 []), (4, v), (14, .bool false)] Hs := by
    intro hm
    simp
    refine r17_takeR [59] (by simp) hbs hs hsuf fun l5 b5 hr5 => ?_
    have hfinal : RRes s bad l (ruleM s.length f l) ⟨nm, a :: done⟩ l5 b5 := by
      rw [ruleM_name]
      exact hr1.bind (hr2.bind (hr3.bind (hm.bind (hr5.bind (RRes.ok hr5.1 _)))))
    have hp := hp _ _ _ hfinal
    have hg2 := hg.set (o := .box (rp s l5 b5)) (BBB_bp ne n1.symm)
    rw [BBB_set ne n1.symm] at hg2
    have hg3 := hg2.set (o := .box (.struct [.str nm, v])) BBB_b3
    rw [BBB_set3] at hg3
    have q3 := hg2.get BBB_b3
    have q2 := hg2.get (BBB_b2 (Ne.symm n2))
    have hg4 := hg3.set (o := .box (.struct [.str nm, v])) (BBB_b2 (Ne.symm n2))
    rw [BBB_set2 (Ne.symm n2)] at hg4
    have hle : HLe (H.set bp (.box (rp s l5 b5))) (((Hs.set bp (.box (rp s l5 b5))).set b3 (.box (.struct [.str nm, v]))).set b2 (.box (.struct [.str nm, v]))) := (hfin _ _ _ _).trans hg4.HLe
    have q2' : ∀ o, ((Hs.set bp (.box (rp s l5 b5))).set b3 o) b2 = some (.box zGR) := fun o => by rw [AHeap.set_ne _ _ (Ne.symm n2)]; exact q2
    simp [q3, q2', zs, hg.size]
    exact ⟨_, sub_rule hg.sub, _, hle, hp⟩
  cases bd with
  | true =>
    simp [ruE, -ref17_parser_rule_c19_eq]
    refine (r17_is [124] hbs hs hsuf).use ?_
    simp [-ref17_parser_rule_c19_eq]
    exact close (he.done hsuf fun h => by cases h)
  | false =>
    have hb1 : b3' = false := by
      cases b3' with
      | false => rfl
      | true => simp [LoopAt] at he
    subst hb1
    obtain ⟨m1, m2, m3⟩ := hn rfl
    obtain ⟨g, rfl⟩ : ∃ g', g = g' + 1 := ⟨g - 1, by omega⟩
    have he0 := he
    simp [LoopAt] at he
    have hrs : rsM ({ v := v, H := Hs, l := l', bad := false, done := done, g := g + 1 } : RsSt GA) = l'.length + 1 := rfl
    rw [hrs]
    simp [ruE, -ref17_parser_rule_c19_eq, -ref17_parser_rule_c9_eq]
    refine (r17_is [124] hbs hs hsuf).use ?_
    cases hc : (peekT s.length l').text == [124]
    · simp [-ref17_parser_rule_c19_eq, -ref17_parser_rule_c9_eq]
      exact close (he0.done hsuf fun _ => by rw [moreM_eq, if_neg (by simp [hc])])
    · rw [moreM_eq, if_pos (by simp [hc])] at he
      simp [-ref17_parser_rule_c19_eq, -ref17_parser_rule_c9_eq]
      cases l' with
      | nil => simp at hc
      | cons t2 r2 =>
        simp only [List.length_cons] at m1 m2
        simp only [List.tail_cons] at he
        simp
        refine r17_adv hbs hs hsuf ?_
        have hg2 := hg.set (o := .box (rp s r2 false)) (BBB_bp ne n1.symm)
        rw [BBB_set ne n1.symm] at hg2
        have hs2 : Suf s r2 := suf_tail hsuf
        simp
        refine r17_alternative (f := g) hs (hg2.get (BBB_bp ne n1.symm)) hs2 (by omega) fun x l6 b6 hr => ?_
        have hg3 := hg2.set (o := .box (rp s l6 b6)) (BBB_bp ne n1.symm)
        rw [BBB_set ne n1.symm, AHeap.set_set] at hg3
        obtain ⟨hs3, hr⟩ := hr
        simp
        refine hg3.app (by simp; omega) fun v' H' hg' => ?_
        simp
        rcases hr with ⟨rfl, hr⟩ | ⟨rfl, hr⟩
        · rw [hr] at he
          have hlen := altM_len hr
          refine loopK_same ⟨v', H', l6, false, done ++ [x], g⟩ ⟨by simpa using hg', hs3, fun _ => ⟨by simp; omega, by simp only; omega, by simp only; omega⟩, ?_⟩ (by simp [rsM]; omega) rfl rfl
          simp [LoopAt]
          rw [he, bindM_ok, ← consM_bind, prepM_cons]
        · rw [hr] at he
          refine loopK_same ⟨v', H', l6, true, done ++ [x], g⟩ ⟨by simpa using hg', hs3, fun h => (by cases h), ?_⟩ (by simp [rsM]) rfl rfl
          simp [LoopAt]
          rw [he]
          rfl
end Go.Av

namespace Go.Av
theorem levelM_name (e : Nat) (a : Int) (t : Tok) (l : List Tok) : levelM e a (t :: l) = bindM (nameB e l) fun nm l2 => bindM (expB e [59] (namesM e l2).2) fun _ r => .ok (⟨a, nm :: (namesM e l2).1⟩, r) := by
  rw [levelM_cons]
  unfold nameB
  split <;> rfl

def zGL : AV := .struct [.int .i64 0, .nils]
theorem sub_level {a : Int} {v : AV} {l : List (List UInt8)} (h : Sub v (.list 1 (l.map AV.str))) : Sub (.struct [i64 a, v]) (GL.av ⟨a, l⟩) := by
  unfold GL.av
  refine .struct rfl (fun j x y hx hy => ?_) (fun x hx => ?_)
  · match j with
    | 0 => simp at hx hy; subst hx hy; exact .refl _
    | 1 => simp at hx hy; subst hx hy; exact h
    | j + 2 => simp at hx
  · simp at hx
    rcases hx with rfl | rfl <;> simp

def lvI (s : List UInt8) (H : AHeap) (bp b2 b3 : Nat) (y : AV) (bad0 : Bool) (l0 : List Tok) (x0 : List UInt8) (n : Nat) (x : RsSt (List UInt8)) : Prop :=
  Grows (BBB H bp b2 b3 (rp s x.l x.bad) zGL y) 9 1 ((x0 :: x.done).map AV.str) x.v x.H ∧ Suf s x.l ∧ x.done.length + x.l.length ≤ n ∧ x.bad = bad0 ∧
    (if bad0 then x.l = l0 else namesM s.length l0 = (x.done ++ (namesM s.length x.l).1, (namesM s.length x.l).2))
def lvE (bp b2 b3 : Nat) (x : RsSt (List UInt8)) : Env := [(0, .ptr bp 0 []), (2, .ptr b2 0 []), (3, .ptr b3 0 []), (4, x.v)]

set_option maxHeartbeats 1000000 in
theorem r17_level {s : List UInt8} (hs : s.length ≤ 1000000) {bp : Nat} {t : Tok} {r : List Tok} {a : Int} {H : AHeap} {post : ARes → AHeap → Prop} (hb : H bp = some (.box (rp s (t :: r) false))) (hl : Suf s (t :: r)) (ha : assocOf t.text = some a)
    (hp : ∀ x l' bad', RRes s false (t :: r) (levelM s.length a (t :: r)) x l' bad' → post (.ret (GL.av x)) (H.set bp (.box (rp s l' bad')))) : ACalls PP ref17_parser_level_id [.ptr bp 0 []] H post := by
  refine ref17_parser_level_enter rfl ?_
  simp [ref17_parser_level_rs, allocQ, -ref17_parser_level_c30_eq]
  intro b2 hb2
  have ne := ne_of_some_none hb hb2
  have zs : zGL.size = 2 := rfl
  rw [show H.set b2 (.box (.struct [.int .i64 0, .nils])) = BB H bp b2 (rp s (t :: r) false) zGL from BB_start hb]
  intro b3 hb3
  obtain ⟨n1, n2, n3⟩ := BB_none hb3 ne
  have hfin : ∀ y z' l' bd, HLe (H.set bp (.box (rp s l' bd))) (BBB H bp b2 b3 (rp s l' bd) z' y) := fun y z' l' bd => BBB_le ne hb2 n1 n2 n3
  rw [show (BB H bp b2 (rp s (t :: r) false) zGL).set b3 (.box (.struct [.int .i64 3, .nils])) = BBB H bp b2 b3 (rp s (t :: r) false) zGL (.struct [i64 3, .nils]) from rfl]
  have hsr : Suf s r := suf_tail hl
  -- behind the two tests
  have main : aw PP ref17_parser_level_c28 (retK [.cell 2 true 2] post) [(0, .ptr bp 0 []), (2, .ptr b2 0 []), (3, .ptr b3 0 [])] (BBB H bp b2 b3 (rp s (t :: r) false) zGL (.struct [i64 a, .nils])) := by
    have hlr := suf_len hsr
    simp [-ref17_parser_level_c27_eq]
    refine r17_adv (BBB_bp ne n1.symm) hs hl ?_
    rw [BBB_set ne n1.symm]
    simp [-ref17_parser_level_c26_eq]
    refine r17_nameR (BBB_bp ne n1.symm) hs hsr fun nm l2 b2' hr2 => ?_
    rw [BBB_set ne n1.symm]
    have hl2 := suf_len hr2.1
    simp [-ref17_parser_level_c25_eq]
    intro b hb0
    have hg0 : Grows (BBB H bp b2 b3 (rp s l2 b2') zGL (.struct [i64 a, .nils])) 9 1 [.str nm] (.own 1 [.str nm] b) ((BBB H bp b2 b3 (rp s l2 b2') zGL (.struct [i64 a, .nils])).set b (.row 1 1 9)) := .inr ⟨b, hb0, rfl, rfl⟩
    refine aw_loopK (lvI s H bp b2 b3 (.struct [i64 a, .nils]) b2' l2 nm s.length) (lvE bp b2 b3) (fun x => x.H) (fun x => x.l.length) ⟨.own 1 [.str nm] b, _, l2, b2', [], 0⟩ ⟨hg0, hr2.1, by simpa using hl2, rfl, ?_⟩ rfl rfl ?_
    · cases b2' <;> simp
    rintro ⟨v, Hs, l', bd, done, g⟩ ⟨hg, hsuf, hn, rfl, he⟩
    simp only at hg hsuf hn he
    have hbs := hg.get (BBB_bp ne n1.symm)
    -- the end
    have close : (if bd then l' = l2 else (namesM s.length l2) = (done, l')) → aw PP ref17_parser_level_c25 (retK [.cell 2 true 2] post) [(0, .ptr bp 0 []), (2, .ptr b2 0 []), (3, .ptr b3 0 []), (4, v), (18, .bool false)] Hs := by
      intro hm
      simp
      refine r17_takeR [59] (by simp) hbs hs hsuf fun l5 b5 hr5 => ?_
      have hfinal : RRes s false (t :: r) (levelM s.length a (t :: r)) ⟨a, nm :: done⟩ l5 b5 := by
        rw [levelM_name]
        have h1 : RRes s bd l2 (bindM (expB s.length [59] (namesM s.length l2).2) fun _ r => (.ok (⟨a, nm :: (namesM s.length l2).1⟩, r) : PR GL)) ⟨a, nm :: done⟩ l5 b5 := by
          cases bd with
          | true =>
            simp at hm
            subst hm
            exact ⟨hr5.1, hr5.2⟩
          | false =>
            simp at hm
            rw [hm]
            have h5 := hr5.bind (F := fun _ r => (.ok ((⟨a, nm :: done⟩ : GL), r) : PR GL)) (RRes.ok hr5.1 _)
            exact ⟨h5.1, h5.2⟩
        have h2 := hr2.bind (F := fun nm l2 => bindM (expB s.length [59] (namesM s.length l2).2) fun _ r => (.ok ((⟨a, nm :: (namesM s.length l2).1⟩ : GL), r) : PR GL)) h1
        exact ⟨h2.1, h2.2⟩
      have hp := hp _ _ _ hfinal
      have hg2 := hg.set (o := .box (rp s l5 b5)) (BBB_bp ne n1.symm)
      rw [BBB_set ne n1.symm] at hg2
      have hg3 := hg2.set (o := .box (.struct [i64 a, v])) BBB_b3
      rw [BBB_set3] at hg3
      have q3 := hg2.get BBB_b3
      have q2 := hg2.get (BBB_b2 (Ne.symm n2))
      have hg4 := hg3.set (o := .box (.struct [i64 a, v])) (BBB_b2 (Ne.symm n2))
      rw [BBB_set2 (Ne.symm n2)] at hg4
      have hle : HLe (H.set bp (.box (rp s l5 b5))) (((Hs.set bp (.box (rp s l5 b5))).set b3 (.box (.struct [i64 a, v]))).set b2 (.box (.struct [i64 a, v]))) := (hfin _ _ _ _).trans hg4.HLe
      have q2' : ∀ o, ((Hs.set bp (.box (rp s l5 b5))).set b3 o) b2 = some (.box zGL) := fun o => by rw [AHeap.set_ne _ _ (Ne.symm n2)]; exact q2
      simp [q3, q2', zs, hg.size]
      exact ⟨_, sub_level hg.sub, _, hle, hp⟩
    simp [lvE, -ref17_parser_level_c25_eq]
    refine (r17_isName hbs hs hsuf).use ?_
    cases hc : (!bd && isNameT (peekT s.length l'))
    · simp [-ref17_parser_level_c25_eq]
      refine close ?_
      cases bd with
      | true => simpa using he
      | false =>
        simp at he hc
        simp
        rw [he]
        cases l' with
        | nil => simp [namesM]
        | cons t2 r2 =>
          simp at hc
          simp [namesM, hc]
    · have hbd : bd = false := by cases bd; rfl; simp at hc
      subst hbd
      simp at hc he
      simp
      cases l' with
      | nil => simp [isNameT] at hc
      | cons t2 r2 =>
        simp at hc
        simp only [List.length_cons] at hn
        refine r17_name hbs hs hsuf (fun _ => ?_) fun h => by simp [hc] at h
        have hg2 := hg.set (o := .box (rp s r2 false)) (BBB_bp ne n1.symm)
        rw [BBB_set ne n1.symm] at hg2
        simp
        refine hg2.app (by simp; omega) fun v' H' hg' => ?_
        simp
        refine loopK_same ⟨v', H', r2, false, done ++ [t2.text], g⟩ ⟨by simpa using hg', suf_tail hsuf, by simp; omega, rfl, ?_⟩ (by simp) rfl rfl
        simp
        rw [he]
        simp [namesM, hc]
  have isx : ∀ (x : List UInt8) (y : AV), Pure ref17_parser_is_id [.ptr bp 0 [], .str x] (BBB H bp b2 b3 (rp s (t :: r) false) zGL y) (.bool (t.text == x)) := fun x y => r17_is x (BBB_bp ne n1.symm) hs hl
  have hcase : (t.text = kwLeft ∧ a = 1) ∨ (t.text = kwRight ∧ a = 2) ∨ (t.text = kwNone ∧ a = 3) := by
    unfold assocOf at ha
    split at ha
    · rename_i h; injection ha with ha; exact .inl ⟨by simpa using h, ha.symm⟩
    · split at ha
      · rename_i h; injection ha with ha; exact .inr (.inl ⟨by simpa using h, ha.symm⟩)
      · split at ha
        · rename_i h; injection ha with ha; exact .inr (.inr ⟨by simpa using h, ha.symm⟩)
        · cases ha
  rcases hcase with ⟨ht, rfl⟩ | ⟨ht, rfl⟩ | ⟨ht, rfl⟩
  · simp [-ref17_parser_level_c28_eq]
    refine (isx kwLeft _).use ?_
    rw [show (t.text == kwLeft) = true from by rw [ht]; decide]
    simp [BBB_b3, BBB_set3, -ref17_parser_level_c28_eq]
    refine (isx kwRight _).use ?_
    rw [show (t.text == kwRight) = false from by rw [ht]; decide]
    simp [-ref17_parser_level_c28_eq]
    exact main
  · simp [-ref17_parser_level_c28_eq]
    refine (isx kwLeft _).use ?_
    rw [show (t.text == kwLeft) = false from by rw [ht]; decide]
    simp [-ref17_parser_level_c28_eq]
    refine (isx kwRight _).use ?_
    rw [show (t.text == kwRight) = true from by rw [ht]; decide]
    simp [BBB_b3, BBB_set3, -ref17_parser_level_c28_eq]
    exact main
  · simp [-ref17_parser_level_c28_eq]
    refine (isx kwLeft _).use ?_
    rw [show (t.text == kwLeft) = false from by rw [ht]; decide]
    simp [-ref17_parser_level_c28_eq]
    refine (isx kwRight _).use ?_
    rw [show (t.text == kwRight) = false from by rw [ht]; decide]
    simp [-ref17_parser_level_c28_eq]
    exact main
end Go.Av
