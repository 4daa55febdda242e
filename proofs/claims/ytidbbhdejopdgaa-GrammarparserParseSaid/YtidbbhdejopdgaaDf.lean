/- Part of the proof: Df. No condition. -/
import Derived.Test.YtidbbhdejopdgaaD17
import Derived.Test.YtidbbhdejopdgaaDd
import Derived.Test.YtidbbhdejopdgaaC21
import Derived.Test.YtidbbhdejopdgaaC24
set_option linter.unusedVariables false
set_option linter.unusedSimpArgs false
namespace Go.Av
/-! ### The reference's Parse -/
theorem progP_name (e F : Nat) (l : List Tok) : progP e F l = bindM (expB e kwStart l) fun _ l => bindM (nameB e l) fun nm l => bindM (expB e [59] l) fun _ l => bindM (levelsM e F l) fun lv l => bindM (rulesM e F F l) fun rs l => .ok (⟨nm, lv, rs⟩, l) := by
  unfold progP nameB
  congr 1
  funext _ l1
  split <;> rfl

def plI (s : List UInt8) (H0 : AHeap) (bp b6 f : Nat) (y : AV) (bad0 : Bool) (l0 : List Tok) (x : RsSt GL) : Prop :=
  Grows (BB H0 bp b6 (rp s x.l x.bad) y) 64 2 (x.done.map GL.av) x.v x.H ∧ Suf s x.l ∧ (x.bad = false → x.done.length + x.l.length ≤ s.length ∧ x.l.length < x.g) ∧
    LoopAt s bad0 l0 (levelsM s.length f l0) (levelsM s.length x.g x.l) x.l x.bad x.done
def plE (s : List UInt8) (b2 bp b6 : Nat) (x : RsSt GL) : Env := [(0, .str s), (2, .ptr b2 0 []), (5, .ptr bp 0 []), (6, .ptr b6 0 []), (7, x.v)]

theorem assoc_or (x : List UInt8) : (assocOf x).isSome = (x == kwLeft || (x == kwRight || x == kwNone)) := by
  unfold assocOf
  cases x == kwLeft <;> cases x == kwRight <;> cases x == kwNone <;> rfl

set_option maxHeartbeats 1000000 in
/-- The precedence levels. -/
theorem r17_Parse_levels {s : List UInt8} (hs : s.length ≤ 1000000) {f b2 bp b6 : Nat} (hf : s.length < f) (ne : bp ≠ b6) {l0 : List Tok} {bad0 : Bool} {y : AV} {H0 : AHeap} {K : AK} (hl : Suf s l0)
    (hK : ∀ v Hs l bad done b, Grows (BB H0 bp b6 (rp s l bad) y) 64 2 (done.map GL.av) v Hs → RRes s bad0 l0 (levelsM s.length f l0) done l bad →
      K .norm [(0, .str s), (2, .ptr b2 0 []), (5, .ptr bp 0 []), (6, .ptr b6 0 []), (7, v), (30, .bool b)] Hs) :
    aw PP ref17_Parse_c14 K [(0, .str s), (2, .ptr b2 0 []), (5, .ptr bp 0 []), (6, .ptr b6 0 []), (7, .nils)] (BB H0 bp b6 (rp s l0 bad0) y) := by
  have hll := suf_len hl
  simp
  refine aw_loopK (plI s H0 bp b6 f y bad0 l0) (plE s b2 bp b6) (fun x => x.H) rsM ⟨.nils, _, l0, bad0, [], f⟩ ⟨Grows.nil _ _ _, hl, fun _ => ⟨by simpa using hll, by simp only; omega⟩, ?_⟩ rfl rfl ?_
  · unfold LoopAt
    cases bad0
    · exact (prepM_nil _).symm
    · exact ⟨rfl, rfl⟩
  rintro ⟨v, Hs, l', bd, done, g⟩ ⟨hg, hsuf, hn, he⟩
  simp only at hg hsuf hn he
  have hbs := hg.get (BB_bp ne)
  have is1 := r17_is kwLeft hbs hs hsuf
  have is2 := r17_is kwRight hbs hs hsuf
  have is3 := r17_is kwNone hbs hs hsuf
  cases bd with
  | true =>
    simp [plE]
    refine is1.use ?_
    simp
    refine is2.use ?_
    simp
    refine is3.use ?_
    simp
    exact hK _ _ _ _ _ _ hg (he.done hsuf fun h => by cases h)
  | false =>
    have hb0 : bad0 = false := by
      cases bad0 with
      | false => rfl
      | true => simp [LoopAt] at he
    subst hb0
    obtain ⟨m1, m2⟩ := hn rfl
    obtain ⟨g, rfl⟩ : ∃ g', g = g' + 1 := ⟨g - 1, by omega⟩
    have he0 := he
    simp [LoopAt] at he
    rw [levelsM_eq] at he
    have hrs : rsM ({ v := v, H := Hs, l := l', bad := false, done := done, g := g + 1 } : RsSt GL) = l'.length + 1 := rfl
    rw [hrs]
    generalize hLK : loopK (plI s H0 bp b6 f y false l0) (plE s b2 bp b6) (fun x => x.H) rsM (l'.length + 1) (blockK 0 K) = LK
    have hex : ∀ env H', LK (.exit 0) env H' = K .norm env H' := by intro env H'; rw [← hLK]; simp
    have round : ∀ a, assocOf (peekT s.length l').text = some a → aw PP ref17_Parse_c11 LK [(0, .str s), (2, .ptr b2 0 []), (5, .ptr bp 0 []), (6, .ptr b6 0 []), (7, v), (30, .bool true)] Hs := by
      intro a ha
      cases l' with
      | nil => simp [assocOf, kwLeft, kwRight, kwNone] at ha
      | cons t r =>
        simp only [peekT_cons] at ha he
        rw [ha] at he
        simp only at he
        simp only [List.length_cons] at m1 m2
        simp
        refine r17_level hs hbs hsuf ha fun x l1 b1 hr => ?_
        have hg1 := hg.set (o := .box (rp s l1 b1)) (BB_bp ne)
        rw [BB_set ne] at hg1
        obtain ⟨hs1, hr⟩ := hr
        simp
        refine hg1.app (by simp; omega) fun v' H' hg' => ?_
        simp
        rw [← hLK]
        rcases hr with ⟨rfl, hr⟩ | ⟨rfl, hr⟩
        · have hlen := levelM_len hr
          rw [hr] at he
          refine loopK_same ⟨v', H', l1, false, done ++ [x], g⟩ ⟨by simpa using hg', hs1, fun _ => ⟨by simp; omega, by simp only; omega⟩, ?_⟩ (by simp [rsM]; omega) rfl rfl
          simp [LoopAt]
          rw [he, bindM_ok, ← consM_bind, prepM_cons]
        · rw [hr] at he
          refine loopK_same ⟨v', H', l1, true, done ++ [x], g⟩ ⟨by simpa using hg', hs1, fun h => (by cases h), ?_⟩ (by simp [rsM]) rfl rfl
          simp [LoopAt]
          rw [he]
          rfl
    simp [plE, -ref17_Parse_c11_eq]
    refine is1.use ?_
    cases h1 : (peekT s.length l').text == kwLeft
    · simp [-ref17_Parse_c11_eq]
      refine is2.use ?_
      cases h2 : (peekT s.length l').text == kwRight
      · simp [-ref17_Parse_c11_eq]
        refine is3.use ?_
        cases h3 : (peekT s.length l').text == kwNone
        · have hno : assocOf (peekT s.length l').text = none := by simp [assocOf, h1, h2, h3]
          simp [hex, -ref17_Parse_c11_eq]
          exact hK _ _ _ _ _ _ hg (he0.done hsuf fun _ => by rw [levelsM_eq, hno])
        · simp [-ref17_Parse_c11_eq]
          exact round 3 (by simp [assocOf, h1, h2, h3])
      · simp [-ref17_Parse_c11_eq]
        exact round 2 (by simp [assocOf, h1, h2])
    · simp [-ref17_Parse_c11_eq]
      exact round 1 (by simp [assocOf, h1])
end Go.Av

namespace Go.Av
def puI (s : List UInt8) (H0 : AHeap) (bp f : Nat) (bad0 : Bool) (l0 : List Tok) (x : RsSt GR) : Prop :=
  Grows (H0.set bp (.box (rp s x.l x.bad))) 44 2 (x.done.map GR.av) x.v x.H ∧ Suf s x.l ∧ (x.bad = false → x.done.length + x.l.length ≤ s.length ∧ x.l.length < x.g) ∧
    LoopAt s bad0 l0 (rulesM s.length f f l0) (rulesM s.length f x.g x.l) x.l x.bad x.done
def puE (s : List UInt8) (b2 bp b6 : Nat) (v7 : AV) (x : RsSt GR) : Env := [(0, .str s), (2, .ptr b2 0 []), (5, .ptr bp 0 []), (6, .ptr b6 0 []), (7, v7), (8, x.v)]

set_option maxHeartbeats 1000000 in
/-- The rules: what is left over is an error. -/
theorem r17_Parse_rules {s : List UInt8} (hs : s.length ≤ 1000000) {f b2 bp b6 : Nat} (hf : 3 * s.length + 3 ≤ f) {l0 : List Tok} {bad0 : Bool} {v7 : AV} {H0 : AHeap} {K : AK} (hl : Suf s l0) (hb0 : H0 bp = some (.box (rp s l0 bad0)))
    (hK : ∀ v Hs l bad done b, Grows (H0.set bp (.box (rp s l bad))) 44 2 (done.map GR.av) v Hs → RRes s bad0 l0 (rulesM s.length f f l0) done l (bad || l != []) →
      K .norm [(0, .str s), (2, .ptr b2 0 []), (5, .ptr bp 0 []), (6, .ptr b6 0 []), (7, v7), (8, v), (37, .bool b)] Hs) :
    aw PP ref17_Parse_c23 K [(0, .str s), (2, .ptr b2 0 []), (5, .ptr bp 0 []), (6, .ptr b6 0 []), (7, v7), (8, .nils)] H0 := by
  have hll := suf_len hl
  simp
  refine aw_loopK (puI s H0 bp f bad0 l0) (puE s b2 bp b6 v7) (fun x => x.H) rsM ⟨.nils, H0, l0, bad0, [], f⟩ ⟨by rw [set_self hb0]; exact Grows.nil _ _ _, hl, fun _ => ⟨by simpa using hll, by simp only; omega⟩, ?_⟩ rfl rfl ?_
  · unfold LoopAt
    cases bad0
    · exact (prepM_nil _).symm
    · exact ⟨rfl, rfl⟩
  rintro ⟨v, Hs, l', bd, done, g⟩ ⟨hg, hsuf, hn, he⟩
  simp only at hg hsuf hn he
  have hbs := hg.get (AHeap.set_same _ _ _)
  have isn := r17_isName hbs hs hsuf
  cases bd with
  | true =>
    simp [puE]
    refine isn.use ?_
    simp
    exact hK _ _ _ _ _ _ hg (he.done hsuf fun h => by cases h)
  | false =>
    have hb0 : bad0 = false := by
      cases bad0 with
      | false => rfl
      | true => simp [LoopAt] at he
    subst hb0
    obtain ⟨m1, m2⟩ := hn rfl
    obtain ⟨g, rfl⟩ : ∃ g', g = g' + 1 := ⟨g - 1, by omega⟩
    have he0 := he
    simp [LoopAt] at he
    have hrs : rsM ({ v := v, H := Hs, l := l', bad := false, done := done, g := g + 1 } : RsSt GR) = l'.length + 1 := rfl
    rw [hrs]
    simp [puE]
    refine isn.use ?_
    cases hc : isNameT (peekT s.length l')
    · simp
      refine hK _ _ _ _ _ _ hg ?_
      cases l' with
      | nil => exact he0.done hsuf fun _ => by rw [rulesM]
      | cons t r =>
        refine ⟨hsuf, .inr ⟨rfl, ?_⟩⟩
        have hc' : isNameT t = false := hc
        rw [he, rulesM_eq, ruleM_eq, if_neg (by simp [hc'])]
        rfl
    · cases l' with
      | nil => simp [isNameT] at hc
      | cons t r =>
        rw [rulesM_eq] at he
        simp only [List.length_cons] at m1 m2
        simp
        refine r17_rule hs hbs hsuf hf fun x l1 b1 hr => ?_
        have hg1 := hg.set (o := .box (rp s l1 b1)) (AHeap.set_same _ _ _)
        rw [AHeap.set_set] at hg1
        obtain ⟨hs1, hr⟩ := hr
        simp
        refine hg1.app (by simp; omega) fun v' H' hg' => ?_
        simp
        rcases hr with ⟨rfl, hr⟩ | ⟨rfl, hr⟩
        · have hlen := ruleM_len hr
          simp only [List.length_cons] at hlen
          rw [hr] at he
          refine loopK_same ⟨v', H', l1, false, done ++ [x], g⟩ ⟨by simpa using hg', hs1, fun _ => ⟨by simp; omega, by simp only; omega⟩, ?_⟩ (by simp [rsM]; omega) rfl rfl
          simp [LoopAt]
          rw [he, bindM_ok, ← consM_bind, prepM_cons]
        · rw [hr] at he
          refine loopK_same ⟨v', H', l1, true, done ++ [x], g⟩ ⟨by simpa using hg', hs1, fun h => (by cases h), ?_⟩ (by simp [rsM]) rfl rfl
          simp [LoopAt]
          rw [he]
          rfl

theorem HLe.set_none {A B : AHeap} (h : HLe A B) {b : Nat} (hb : A b = none) (o : AObj) : HLe A (B.set b o) := by
  refine ⟨fun x v hx => ?_, fun x n s e hx => ?_⟩
  · have : x ≠ b := by rintro rfl; rw [hb] at hx; cases hx
    rw [AHeap.set_ne _ _ this]; exact h.box x v hx
  · have : x ≠ b := by rintro rfl; rw [hb] at hx; cases hx
    rw [AHeap.set_ne _ _ this]; exact h.row x n s e hx

theorem sub_tuple3 {a a' : AV} {x y : Int} (h : Sub a a') (hu : a' ≠ .undef) : Sub (.tuple [a, i64 x, i64 y]) (.tuple [a', i64 x, i64 y]) := by
  refine .tuple rfl (fun j u v hx hy => ?_) (fun u hx => ?_)
  · match j with
    | 0 => simp at hx hy; subst hx hy; exact h
    | 1 => simp at hx hy; subst hx hy; exact .refl _
    | 2 => simp at hx hy; subst hx hy; exact .refl _
    | n + 3 => simp at hx
  · simp at hx
    rcases hx with rfl | rfl | rfl
    · exact hu
    · simp
    · simp

theorem parseM_of_prog {s : List UInt8} {l : List Tok} {f : GF} {b : Bool} (h : RRes s false (lex s) (progP s.length 3000003 (lex s)) f l b) :
    parseM s = if b then (⟨[], [], []⟩, ((peekT s.length l).at_ : Int), 3) else if validM f then (f, 0, 0) else (⟨[], [], []⟩, 0, 1) := by
  obtain ⟨_, h⟩ := h
  unfold parseM
  rw [progM_eq]
  rcases h with ⟨rfl, h⟩ | ⟨rfl, h⟩
  · rw [h]; rfl
  · rw [h]; rfl

set_option maxHeartbeats 1000000 in
theorem r17_Parse (s : List UInt8) (hs : s.length ≤ 1000000) (H : AHeap) : Pure ref17_Parse_id [.str s] H (.tuple [(parseM s).1.av, i64 (parseM s).2.1, i64 (parseM s).2.2]) := by
  have hml := maxLen_eq
  have zs : zGF.size = 3 := rfl
  refine ref17_Parse_enter rfl ?_
  simp [ref17_Parse_rs, allocQ, -ref17_Parse_c47_eq]
  intro b2 hb2 bp hbp
  have n2p : b2 ≠ bp := by rintro rfl; rw [AHeap.set_same] at hbp; cases hbp
  have hbp0 : H bp = none := by rwa [AHeap.set_ne _ _ (Ne.symm n2p)] at hbp
  rw [show AV.struct [.str [], .nils, .nils] = zGF from rfl]
  generalize hH0 : H.set b2 (.box zGF) = H0 at *
  have z2 : H0 b2 = some (.box zGF) := by rw [← hH0]; exact AHeap.set_same _ _ _
  have hle0 : HLe H H0 := by rw [← hH0]; exact .set hb2
  have h0 : lexF s (0 + 0) = lex s := by simp [lexF, lex]
  simp [-ref17_Parse_c46_eq]
  refine r17_advance (s := s) (a := 0) (n := 0) (bad := false) (AHeap.set_same _ _ _) hs (by omega) ?_
  rw [h0]
  simp [-ref17_Parse_c45_eq]
  refine r17_takeR kwStart (by simp [kwStart]) (AHeap.set_same _ _ _) hs (suf_lex s) fun l1 b1 hr1 => ?_
  simp [-ref17_Parse_c44_eq]
  refine r17_nameR (AHeap.set_same _ _ _) hs hr1.1 fun nm l2 b2' hr2 => ?_
  simp [allocQ, -ref17_Parse_c44_eq]
  intro b6 hb6
  have ne : bp ≠ b6 := by rintro rfl; rw [AHeap.set_same] at hb6; cases hb6
  have hb60 : H0 b6 = none := by rwa [AHeap.set_ne _ _ (Ne.symm ne)] at hb6
  have n26 : b2 ≠ b6 := ne_of_some_none z2 hb60
  have hb6H : H b6 = none := by rw [← hH0, AHeap.set_ne _ _ (Ne.symm n26)] at hb60; exact hb60
  rw [show (H0.set bp (.box (rp s l2 b2'))).set b6 (.box (.struct [.str nm, .nils, .nils])) = BB H0 bp b6 (rp s l2 b2') (.struct [.str nm, .nils, .nils]) from rfl]
  simp [-ref17_Parse_c43_eq]
  refine r17_takeR [59] (by simp) (BB_bp ne) hs hr2.1 fun l3 b3 hr3 => ?_
  rw [BB_set ne]
  simp [-ref17_Parse_c14_eq, -ref17_Parse_c41_eq]
  refine r17_Parse_levels (f := 3000003) hs (by omega) ne hr3.1 fun v7 Hs l4 b4 lv bb hg hr4 => ?_
  have hs4 := hr4.1
  simp [-ref17_Parse_c23_eq, -ref17_Parse_c39_eq]
  refine r17_Parse_rules (f := 3000003) hs (by omega) hs4 (hg.get (BB_bp ne)) fun v8 Hs2 l5 b5 rs bb2 hg2 hr5 => ?_
  have hfinal : RRes s false (lex s) (progP s.length 3000003 (lex s)) ⟨nm, lv, rs⟩ l5 (b5 || l5 != []) := by
    rw [progP_name]
    exact hr1.bind (hr2.bind (hr3.bind (hr4.bind (hr5.bind (RRes.ok hr5.1 _)))))
  have hpm := parseM_of_prog hfinal
  have hsuf5 := hr5.1
  have qp : Hs2 bp = some (.box (rp s l5 b5)) := hg2.get (AHeap.set_same _ _ _)
  have qp' : Hs2 bp = some (.box (.struct [.str s, i64 (peekT s.length l5).at_, i64 (peekT s.length l5).text.length, .bool b5])) := qp
  have q6 : Hs2 b6 = some (.box (.struct [.str nm, .nils, .nils])) := hg2.get (by rw [AHeap.set_ne _ _ (Ne.symm ne)]; exact hg.get BB_b2)
  have q2 : Hs2 b2 = some (.box zGF) := hg2.get (by rw [AHeap.set_ne _ _ n2p]; exact hg.get (by unfold BB; rw [AHeap.set_ne _ _ n26, AHeap.set_ne _ _ n2p]; exact z2))
  have hleB : HLe H Hs2 := by
    have h1 : HLe H (BB H0 bp b6 (rp s l4 b4) (.struct [.str nm, .nils, .nils])) := (hle0.set_none hbp0 _).set_none hb6H _
    exact ((h1.trans hg.HLe).set_none hbp0 _).trans hg2.HLe
  have hg2s := hg2.size
  have hgs := hg.size
  simp [-ref17_Parse_c39_eq]
  cases herr : (b5 || l5 != [])
  · -- a tree
    have hb5 : b5 = false := by cases b5; rfl; simp at herr
    subst hb5
    have hl5 : l5 = [] := by simpa using herr
    subst hl5
    rw [herr] at hpm
    simp at hpm
    simp [qp', -ref17_Parse_c38_eq]
    intro _
    have hsub : Sub (.struct [.str nm, v7, v8]) (GF.av ⟨nm, lv, rs⟩) := sub_file hg.sub hg2.sub
    have r6 : ∀ o, (Hs2.set b6 o) b2 = some (.box zGF) := fun o => by rw [AHeap.set_ne _ _ n26]; exact q2
    have hleC : HLe H (Hs2.set b6 (.box (.struct [.str nm, v7, v8]))) := hleB.set_none hb6H _
    have htok : (lv.flatMap GL.tokens).length ≤ 1000000 := by
      obtain ⟨_, hf⟩ := hfinal
      have hok : progM s.length 3000003 (lex s) = .ok ⟨nm, lv, rs⟩ := by
        rw [progM_eq]
        rcases hf with ⟨_, h⟩ | ⟨h, _⟩
        · rw [h]
        · rw [herr] at h; cases h
      have h1 := progM_levels hok
      have h2 := lex_len s
      simp only at h1
      omega
    simp [q6, r6, hgs, hg2s, AHeap.set_set]
    refine ACalls.sub1 hsub ((r16_Valid ⟨nm, lv, rs⟩ htok _).use ?_)
    cases hv : validM ⟨nm, lv, rs⟩
    · rw [hv] at hpm
      simp at hpm
      rw [hpm]
      simp [q6, r6, hgs, hg2s, zs]
      exact ⟨sub_tuple3 zGF_sub (by simp [GF.av]), hleC.set_none hb2 _⟩
    · rw [hv] at hpm
      simp at hpm
      rw [hpm]
      simp [q6, r6, hgs, hg2s, zs]
      exact ⟨sub_tuple3 hsub (by simp [GF.av]), hleC.set_none hb2 _⟩
  · rw [herr] at hpm
    simp at hpm
    rw [hpm]
    have test : aw PP ref17_Parse_c26 (retK [.cell 2 true 3, .tmp 3, .tmp 4] fun r H' => r = .ret (.tuple [(GF.av ⟨[], [], []⟩), i64 (peekT s.length l5).at_, i64 3]) ∧ H' = H)
        [(2, .ptr b2 0 []), (5, .ptr bp 0 []), (6, .ptr b6 0 []), (7, v7), (8, v8), (55, .bool true)] Hs2 := by
      simp
      refine ref17_Parse_c25_lexF [bp] ?_
      simp [qp', q2, zs, Agree, AHeap.set_ne, Ne.symm n2p]
      exact ⟨sub_tuple3 zGF_sub (by simp [GF.av]), hleB.set_none hb2 _⟩
    cases b5 with
    | true =>
      simp [qp', -ref17_Parse_c26_eq, -ref17_Parse_c38_eq]
      exact test
    | false =>
      cases l5 with
      | nil => simp at herr
      | cons t r =>
        obtain ⟨⟨c, x, hx, _⟩, h1, _⟩ := suf_cons hsuf5
        have hlt : t.at_ < s.length := by rw [hx] at h1; simp at h1; omega
        have hlt' : ¬ s.length ≤ t.at_ := by omega
        simp [qp', hlt, hlt', -ref17_Parse_c26_eq, -ref17_Parse_c38_eq]
        exact fun _ => test
end Go.Av
