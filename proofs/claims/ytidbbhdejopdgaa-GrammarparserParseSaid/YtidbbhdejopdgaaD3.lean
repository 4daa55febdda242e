/- Part of the proof: D3. No condition. -/
import Derived.Test.YtidbbhdejopdgaaDa
import Derived.Test.YtidbbhdejopdgaaFns11
set_option linter.unusedVariables false
set_option linter.unusedSimpArgs false
namespace Go.Av
structure TkSt where
  v : AV
  H : AHeap
  l : List Tok
  done : List Tok

theorem r17_Tokens (s : List UInt8) (hs : s.length ≤ 1000000) (H : AHeap) : Pure ref17_Tokens_id [.str s] H (.list 1 ((lex s).map fun t => .str t.text)) := by
  have hml := maxLen_eq
  refine ref17_Tokens_enter rfl ?_
  simp [ref17_Tokens_rs, allocQ]
  intro bp hbp
  refine r17_advance (s := s) (a := 0) (n := 0) (bad := false) (AHeap.set_same _ _ _) hs (by omega) ?_
  have h0 : lexF s (0 + 0) = lex s := by simp [lexF, lex]
  rw [h0]
  simp
  refine aw_loopK (fun x : TkSt => Grows (H.set bp (.box (rp s x.l false))) 9 1 (x.done.map fun t => .str t.text) x.v x.H ∧ x.done ++ x.l = lex s ∧ Suf s x.l)
    (fun x => [(0, .str s), (3, .ptr bp 0 []), (4, x.v)]) (fun x => x.H) (fun x => x.l.length) ⟨.nils, _, lex s, []⟩ ⟨Grows.nil _ _ _, rfl, suf_lex s⟩ rfl rfl ?_
  rintro ⟨v, Hs, l, done⟩ ⟨hg, hd, hsuf⟩
  simp only at hg hd hsuf
  have hlen := lex_len s
  have hb := hg.get (AHeap.set_same _ _ _)
  have hb' := hb
  unfold rp rpS at hb'
  cases l with
  | nil =>
    simp [hb']
    intro _
    simp at hd
    exact ⟨hg.size.2.1, hd ▸ hg.sub, (HLe.set hbp).trans hg.HLe⟩
  | cons t r =>
    obtain ⟨⟨c, x, hx, _⟩, h1, h2, h3, h4⟩ := suf_cons hsuf
    have hlt : (t.at_ : Int) < s.length := by rw [hx] at h1; simp at h1; omega
    have hlt' : ¬ s.length ≤ t.at_ := by omega
    have hlt2 : t.at_ < s.length := by omega
    simp [hb', hlt, hlt', hlt2]
    intro _
    refine (r17_text hb hs hsuf).use ?_
    simp
    have hdl : done.length + (r.length + 1) ≤ s.length := by rw [← hd] at hlen; simpa using hlen
    refine hg.app (by simp; omega) fun v' H' hg' => ?_
    simp
    refine r17_adv (hg'.get (AHeap.set_same _ _ _)) hs hsuf ?_
    simp
    have hg2 := hg'.set (o := .box (rp s r false)) (AHeap.set_same _ _ _)
    rw [AHeap.set_set] at hg2
    exact loopK_same ⟨v', H'.set bp (.box (rp s r false)), r, done ++ [t]⟩ ⟨by simpa using hg2, by rw [← hd]; simp, h4⟩ (by simp) rfl rfl
end Go.Av
