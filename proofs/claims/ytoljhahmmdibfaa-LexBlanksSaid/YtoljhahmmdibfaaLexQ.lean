/- Plain facts: blanks around a line, and what is behind a sharp sign, change no word. No condition. -/
import Derived.Test.YtoljhahmmdibfaaLexM
namespace Go.Proofs.Ytoljhahmmdibfaa.LexM
def texts (ws : List Wd) : List Bs := ws.map (·.2)
def outTexts (out : List Ln) : List (List Bs) := out.map fun ln => texts ln.2
structure Shift (a : Int) (p q : St) : Prop where
  line : q.line = p.line
  col : q.col = p.col + a
  offp : p.off = false
  offq : q.off = false
  word : q.word = p.word
  frm : p.frm = 0 ↔ q.frm = 0
  fp : 0 ≤ p.frm
  fq : 0 ≤ q.frm
  cp : 0 ≤ p.col
  cq : 0 ≤ a
  words : texts q.words = texts p.words
  out : outTexts q.out = outTexts p.out
theorem texts_len {a b : List Wd} (h : texts a = texts b) : a.length = b.length := by
  have := congrArg List.length h
  simpa [texts] using this
theorem outTexts_len {a b : List Ln} (h : outTexts a = outTexts b) : a.length = b.length := by
  have := congrArg List.length h
  simpa [outTexts] using this
theorem texts_app (a b : List Wd) : texts (a ++ b) = texts a ++ texts b := by simp [texts]
theorem ends_texts {a : Int} {p q : St} (h : Shift a p q) : texts (ends q).words = texts (ends p).words := by
  unfold ends
  dsimp only
  by_cases h0 : p.frm = 0
  · have h1 := h.frm.1 h0
    rw [if_neg (by omega), if_neg (by omega)]
    exact h.words
  · have h1 : q.frm ≠ 0 := fun e => h0 (h.frm.2 e)
    have := h.fp
    have := h.fq
    rw [if_pos (by omega), if_pos (by omega), texts_app, texts_app, h.words, h.word]
    rfl
def plainByte (c : UInt8) : Prop := 32 ≤ c.toNat ∧ c.toNat ≤ 126 ∧ c.toNat ≠ 35
theorem takes_plain (s : St) (c : UInt8) (ho : s.off = false) (hc : plainByte c) : takes s c = if c.toNat = 32 then (ends (onward s), 0) else if 0 < s.frm then ({ onward s with word := s.word ++ [c] }, 0) else if mayBegin s = true then ({ onward s with frm := s.col + 1, word := s.word ++ [c] }, 0) else ({ onward s with frm := s.col + 1 }, 4) := by
  obtain ⟨c1, c2, c3⟩ := hc
  unfold takes
  rw [if_neg (show ¬ c.toNat = 10 by omega), if_neg (show ¬ (c.toNat < 32 ∨ 126 < c.toNat) by omega), if_neg (show ¬ s.off = true by rw [ho]; simp), if_neg c3]
theorem shift_step {a : Int} {p q : St} (h : Shift a p q) (c : UInt8) (hc : plainByte c) : (takes q c).2 = (takes p c).2 ∧ ((takes p c).2 = 0 → Shift a (takes p c).1 (takes q c).1) := by
  have hb : mayBegin q = mayBegin p := by unfold mayBegin; rw [texts_len h.words, outTexts_len h.out]
  have hcol := h.col
  have hcp := h.cp
  have hcq := h.cq
  rw [takes_plain p c h.offp hc, takes_plain q c h.offq hc]
  by_cases h32 : c.toNat = 32
  · rw [if_pos h32, if_pos h32]
    refine ⟨rfl, fun _ => ?_⟩
    have ht := ends_texts h
    exact ⟨h.line, by simp only [ends, onward]; omega, h.offp, h.offq, rfl, ⟨fun _ => rfl, fun _ => rfl⟩, Int.le_refl _, Int.le_refl _, by simp only [ends, onward]; omega, hcq, ht, h.out⟩
  · rw [if_neg h32, if_neg h32]
    by_cases h0 : p.frm = 0
    · have h1 := h.frm.1 h0
      rw [if_neg (show ¬ 0 < q.frm by omega), if_neg (show ¬ 0 < p.frm by omega), hb]
      by_cases hm : mayBegin p = true
      · rw [if_pos hm, if_pos hm]
        refine ⟨rfl, fun _ => ⟨h.line, by simp only [onward]; omega, h.offp, h.offq, by simp only [onward]; rw [h.word], ⟨fun e => ?_, fun e => ?_⟩, by simp only [onward]; omega, by simp only [onward]; omega, by simp only [onward]; omega, hcq, h.words, h.out⟩⟩
        · simp only [onward] at e; omega
        · simp only [onward] at e; omega
      · rw [if_neg hm, if_neg hm]
        exact ⟨rfl, fun e => by cases e⟩
    · have h1 : q.frm ≠ 0 := fun e => h0 (h.frm.2 e)
      have := h.fp
      have := h.fq
      rw [if_pos (show 0 < q.frm by omega), if_pos (show 0 < p.frm by omega)]
      exact ⟨rfl, fun _ => ⟨h.line, by simp only [onward]; omega, h.offp, h.offq, by simp only [onward]; rw [h.word], ⟨fun e => absurd e h0, fun e => absurd e h1⟩, h.fp, h.fq, by simp only [onward]; omega, hcq, h.words, h.out⟩⟩
theorem shift_run {a : Int} : ∀ (s : Bs) (p q : St), Shift a p q → (∀ c ∈ s, plainByte c) → (run q s).2 = (run p s).2 ∧ ((run p s).2 = 0 → Shift a (run p s).1 (run q s).1) := by
  intro s
  induction s with
  | nil => intro p q h _; exact ⟨rfl, fun _ => h⟩
  | cons c s ih =>
    intro p q h hs
    obtain ⟨e1, e2⟩ := shift_step h c (hs c (by simp))
    by_cases hz : (takes p c).2 = 0
    · rw [run_ok hz, run_ok (by rw [e1]; exact hz)]
      exact ih _ _ (e2 hz) (fun x hx => hs x (by simp [hx]))
    · rw [run_bad hz, run_bad (by rw [e1]; exact hz)]
      exact ⟨e1, fun h => absurd h hz⟩
def blank (k : Nat) : Bs := List.replicate k 32
theorem run_blank (n : Int) (out : List Ln) (k : Nat) : run (fresh n out) (blank k) = ({ fresh n out with col := k }, 0) := by
  induction k with
  | zero => rfl
  | succ k ih =>
    unfold blank at ih ⊢
    rw [List.replicate_succ', run_append, ih, if_pos rfl]
    have h1 : takes { fresh n out with col := (k : Int) } 32 = ({ fresh n out with col := ((k + 1 : Nat) : Int) }, 0) := by
      unfold takes
      rw [if_neg (by decide), if_neg (by decide), if_neg (by simp [fresh]), if_neg (by decide), if_pos (by decide)]
      rfl
    rw [run_ok (by rw [h1]), h1]
    rfl
/-- what is behind a line's words -/
theorem run_rest (q : St) (hq : q.off = false) (k : Nat) (note : Bs) (hn : ∀ c ∈ note, 32 ≤ c.toNat ∧ c.toNat ≤ 126) : ∃ col, run q (blank k ++ (35 :: note ++ [10])) = (fresh (q.line + 1) (addLn q.out q.line (ends q).words), 0) ∨ False ∧ col = (0 : Int) := by
  refine ⟨0, .inl ?_⟩
  have hbl : ∀ (k : Nat) (q : St), q.off = false → (run q (blank k)).2 = 0 ∧ (run q (blank k)).1.off = false ∧ (run q (blank k)).1.line = q.line ∧ (run q (blank k)).1.out = q.out ∧ (ends (run q (blank k)).1).words = (ends q).words := by
    intro k
    induction k with
    | zero => intro q hq; exact ⟨rfl, hq, rfl, rfl, rfl⟩
    | succ k ih =>
      intro q hq
      have h1 : takes q 32 = (ends (onward q), 0) := by
        unfold takes
        rw [if_neg (by decide), if_neg (by decide), if_neg (by rw [hq]; simp), if_neg (by decide), if_pos (by decide)]
      have h2 : blank (k + 1) = 32 :: blank k := rfl
      rw [h2, run_ok (by rw [h1]), h1]
      obtain ⟨a, b, c, d, e⟩ := ih (ends (onward q)) hq
      exact ⟨a, b, c, d, e.trans (by unfold ends onward; simp)⟩
  have hno : ∀ (note : Bs) (q : St), q.off = true → (∀ c ∈ note, 32 ≤ c.toNat ∧ c.toNat ≤ 126) → ∃ col, run q note = ({ q with col := col }, 0) := by
    intro note
    induction note with
    | nil => intro q _ _; exact ⟨q.col, rfl⟩
    | cons c r ih =>
      intro q hq hn
      have hc := hn c (by simp)
      have h1 : takes q c = (onward q, 0) := by
        unfold takes
        rw [if_neg (by omega), if_neg (by omega), if_pos hq]
      rw [run_ok (by rw [h1]), h1]
      obtain ⟨col, hcol⟩ := ih (onward q) hq (fun x hx => hn x (by simp [hx]))
      exact ⟨col, hcol⟩
  obtain ⟨a, b, c, d, e⟩ := hbl k q hq
  rw [run_append, if_pos a]
  obtain ⟨q1, hq1⟩ : ∃ q1, q1 = (run q (blank k)).1 := ⟨_, rfl⟩
  rw [← hq1] at b c d e ⊢
  have h35 : takes q1 35 = ({ ends (onward q1) with off := true }, 0) := by
    unfold takes
    rw [if_neg (by decide), if_neg (by decide), if_neg (by rw [b]; simp), if_pos (by decide)]
  rw [List.cons_append, run_ok (by rw [h35]), h35, run_append]
  obtain ⟨col, hcol⟩ := hno note { ends (onward q1) with off := true } rfl hn
  rw [hcol, if_pos rfl]
  have h10 : takes { ({ ends (onward q1) with off := true } : St) with col := col } 10 = (fresh (q1.line + 1) (addLn q1.out q1.line (ends q1).words), 0) := by
    unfold takes
    rw [if_pos (by decide)]
    congr 1
  rw [run_ok (by rw [h10]), h10, c, d, e]
  rfl
theorem run_end (p : St) (hp : p.off = false) : run p [10] = (fresh (p.line + 1) (addLn p.out p.line (ends p).words), 0) := by
  have h10 : takes p 10 = (fresh (p.line + 1) (addLn p.out p.line (ends p).words), 0) := by
    unfold takes
    rw [if_pos (by decide)]
    rfl
  rw [run_ok (by rw [h10]), h10]
  rfl
theorem outTexts_add {o o' : List Ln} {n n' : Int} {ws ws' : List Wd} (h : outTexts o' = outTexts o) (hw : texts ws' = texts ws) : outTexts (addLn o' n' ws') = outTexts (addLn o n ws) := by
  unfold addLn
  by_cases h0 : ws = []
  · have h1 : ws' = [] := List.eq_nil_of_length_eq_zero (by rw [texts_len hw, h0]; rfl)
    rw [if_pos h0, if_pos h1]; exact h
  · have h1 : ws' ≠ [] := fun e => h0 (List.eq_nil_of_length_eq_zero (by rw [← texts_len hw, e]; rfl))
    rw [if_neg h0, if_neg h1]
    unfold outTexts at h ⊢
    rw [List.map_append, List.map_append, h]
    simp [hw]
/-- the plain row, and the one with more -/
def plainRow (s : Bs) : Bs := s ++ [10]
def moreRow (a b : Nat) (note s : Bs) : Bs := blank a ++ (s ++ (blank b ++ (35 :: note ++ [10])))
theorem row_same (a b : Nat) (note : Bs) (hn : ∀ c ∈ note, 32 ≤ c.toNat ∧ c.toNat ≤ 126) (s : Bs) (hs : ∀ c ∈ s, plainByte c) (n : Int) (o o' : List Ln) (h : outTexts o' = outTexts o) :
    (run (fresh n o') (moreRow a b note s)).2 = (run (fresh n o) (plainRow s)).2 ∧
    ((run (fresh n o) (plainRow s)).2 = 0 → ∃ x x', (run (fresh n o) (plainRow s)).1 = fresh (n + 1) x ∧ (run (fresh n o') (moreRow a b note s)).1 = fresh (n + 1) x' ∧ outTexts x' = outTexts x) := by
  have h0 : Shift a (fresh n o) { fresh n o' with col := (a : Int) } := ⟨rfl, by simp [fresh], rfl, rfl, rfl, Iff.rfl, Int.le_refl _, Int.le_refl _, Int.le_refl _, by omega, rfl, h⟩
  obtain ⟨e1, e2⟩ := shift_run s _ _ h0 hs
  unfold moreRow plainRow
  rw [run_append, run_blank, if_pos rfl, run_append, run_append s [10]]
  by_cases hz : (run (fresh n o) s).2 = 0
  · rw [if_pos (show (run { fresh n o' with col := (a : Int) } s).2 = 0 by rw [e1]; exact hz), if_pos hz]
    have hS := e2 hz
    obtain ⟨_, hr⟩ := run_rest (run { fresh n o' with col := (a : Int) } s).1 hS.offq b note hn
    rcases hr with hr | ⟨hf, _⟩
    · rw [hr, run_end _ hS.offp]
      have hl : (run (fresh n o) s).1.line = n ∧ (run (fresh n o) s).1.out = o := by
        have hl2 := line_all s n o (fun c hc => by have := hs c hc; unfold plainByte at this; omega)
        exact ⟨hl2.2.1, hl2.2.2.1⟩
      refine ⟨rfl, fun _ => ⟨_, _, by rw [hl.1], by rw [hS.line, hl.1], ?_⟩⟩
      exact outTexts_add hS.out (ends_texts hS)
    · exact hf.elim
  · rw [if_neg (show ¬ (run { fresh n o' with col := (a : Int) } s).2 = 0 by rw [e1]; exact hz), if_neg hz]
    exact ⟨e1, fun h => absurd h hz⟩
def plainAll (rows : List Bs) : Bs := rows.flatMap plainRow
def moreAll (a b : Nat) (note : Bs) (rows : List Bs) : Bs := rows.flatMap (moreRow a b note)
theorem all_same (a b : Nat) (note : Bs) (hn : ∀ c ∈ note, 32 ≤ c.toNat ∧ c.toNat ≤ 126) : ∀ (rows : List Bs) (n : Int) (o o' : List Ln), (∀ s ∈ rows, ∀ c ∈ s, plainByte c) → outTexts o' = outTexts o →
    (run (fresh n o') (moreAll a b note rows)).2 = (run (fresh n o) (plainAll rows)).2 ∧
    ((run (fresh n o) (plainAll rows)).2 = 0 → ∃ m x x', (run (fresh n o) (plainAll rows)).1 = fresh m x ∧ (run (fresh n o') (moreAll a b note rows)).1 = fresh m x' ∧ outTexts x' = outTexts x) := by
  intro rows
  induction rows with
  | nil => intro n o o' _ h; exact ⟨rfl, fun _ => ⟨n, o, o', rfl, rfl, h⟩⟩
  | cons s r ih =>
    intro n o o' hs h
    obtain ⟨e1, e2⟩ := row_same a b note hn s (hs s (by simp)) n o o' h
    have p1 : plainAll (s :: r) = plainRow s ++ plainAll r := rfl
    have p2 : moreAll a b note (s :: r) = moreRow a b note s ++ moreAll a b note r := rfl
    rw [p1, p2, run_append, run_append (plainRow s)]
    by_cases hz : (run (fresh n o) (plainRow s)).2 = 0
    · rw [if_pos (show (run (fresh n o') (moreRow a b note s)).2 = 0 by rw [e1]; exact hz), if_pos hz]
      obtain ⟨x, x', h1, h2, h3⟩ := e2 hz
      rw [h1, h2]
      exact ih (n + 1) x x' (fun t ht => hs t (by simp [ht])) h3
    · rw [if_neg (show ¬ (run (fresh n o') (moreRow a b note s)).2 = 0 by rw [e1]; exact hz), if_neg hz]
      exact ⟨e1, fun h => absurd h hz⟩
/-- the errors are the same, and the texts of the words -/
theorem lines_same (a b : Nat) (note : Bs) (hn : ∀ c ∈ note, 32 ≤ c.toNat ∧ c.toNat ≤ 126) (rows : List Bs) (hs : ∀ s ∈ rows, ∀ c ∈ s, plainByte c) (hl1 : (plainAll rows).length ≤ 65536) (hl2 : (moreAll a b note rows).length ≤ 65536) :
    (lines (moreAll a b note rows)).e = (lines (plainAll rows)).e ∧ outTexts (lines (moreAll a b note rows)).lines = outTexts (lines (plainAll rows)).lines := by
  unfold lines
  rw [if_neg (by omega), if_neg (by omega)]
  obtain ⟨e1, e2⟩ := all_same a b note hn rows 1 [] [] hs rfl
  have hf : fresh 1 [] = st0 := rfl
  rw [hf] at e1 e2
  unfold close
  by_cases hz : (run st0 (plainAll rows)).2 = 0
  · rw [if_pos (show (run st0 (moreAll a b note rows)).2 = 0 by rw [e1]; exact hz), if_pos hz]
    obtain ⟨m, x, x', h1, h2, h3⟩ := e2 hz
    rw [h1, h2]
    exact ⟨rfl, h3⟩
  · rw [if_neg (show ¬ (run st0 (moreAll a b note rows)).2 = 0 by rw [e1]; exact hz), if_neg hz]
    exact ⟨e1, rfl⟩
end Go.Proofs.Ytoljhahmmdibfaa.LexM
