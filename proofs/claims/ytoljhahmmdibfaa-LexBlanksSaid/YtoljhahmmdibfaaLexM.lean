/- Plain facts on lines of words: a lexer that goes byte by byte, and one that goes line by line, tell the same. No condition. -/
namespace Go.Proofs.Ytoljhahmmdibfaa.LexM
abbrev Bs := List UInt8
abbrev Wd := Int × Bs
abbrev Ln := Int × List Wd
structure St where
  line : Int
  col : Int
  frm : Int
  off : Bool
  word : Bs
  words : List Wd
  out : List Ln

def ends (s : St) : St := { s with frm := 0, word := [], words := if 0 < s.frm then s.words ++ [(s.frm, s.word)] else s.words }
def breaks (s : St) : St :=
  { (ends s) with out := if (ends s).words = [] then s.out else s.out ++ [(s.line, (ends s).words)], words := [], off := false, line := s.line + 1, col := 0 }
def mayBegin (s : St) : Bool := decide (s.words.length < 40) && (decide (0 < s.words.length) || decide (s.out.length < 2000))
def onward (s : St) : St := { s with col := s.col + 1 }
def takes (s : St) (c : UInt8) : St × Int :=
  if c.toNat = 10 then (breaks (onward s), 0)
  else if c.toNat < 32 ∨ 126 < c.toNat then (onward s, 3)
  else if s.off = true then (onward s, 0)
  else if c.toNat = 35 then ({ ends (onward s) with off := true }, 0)
  else if c.toNat = 32 then (ends (onward s), 0)
  else if 0 < s.frm then ({ onward s with word := s.word ++ [c] }, 0)
  else if mayBegin s = true then ({ onward s with frm := s.col + 1, word := s.word ++ [c] }, 0)
  else ({ onward s with frm := s.col + 1 }, 4)
def run : St → Bs → St × Int
  | s, [] => (s, 0)
  | s, c :: r => if (takes s c).2 = 0 then run (takes s c).1 r else takes s c
def st0 : St := ⟨1, 0, 0, false, [], [], []⟩
structure Res where
  lines : List Ln
  at1 : Int
  at2 : Int
  e : Int
def close (r : St × Int) : Res := if r.2 = 0 then ⟨(breaks r.1).out, 0, 0, 0⟩ else ⟨[], r.1.line, r.1.col, r.2⟩
def lines (t : Bs) : Res := if 65536 < t.length then ⟨[], 0, 0, 4⟩ else close (run st0 t)

/-! the document's -/
def part (c : UInt8) : Bool := decide (32 < c.toNat) && decide (c.toNat < 127) && !decide (c.toNat = 35)
def wordAt (t : Bs) (i : Nat) : Bs := (t.drop i).takeWhile part
structure RS where
  off : Bool
  out : List Wd
def roff (s : RS) (c : UInt8) : Bool := s.off || decide (c.toNat = 35)
def rskip (t : Bs) (s : RS) (i : Nat) (c : UInt8) : Bool := roff s c || !part c || (decide (0 < i) && part (t.getD (i - 1) 0))
def rnext (t : Bs) (s : RS) (i : Nat) (c : UInt8) : RS := ⟨roff s c, if rskip t s i c = true then s.out else s.out ++ [((i : Int) + 1, wordAt t i)]⟩
def rerr (t : Bs) (room : Bool) (s : RS) (i : Nat) (c : UInt8) : Int :=
  if c.toNat < 32 ∨ 126 < c.toNat then 3
  else if rskip t s i c = true then 0
  else if s.out.length = 40 ∨ room = false then 4 else 0
/-- the words, and where it is wrong, and the error -/
def rgo (t : Bs) (room : Bool) (s : RS) (i : Nat) : Bs → List Wd × Int × Int
  | [] => (s.out, 0, 0)
  | c :: r => if rerr t room s i c = 0 then rgo t room (rnext t s i c) (i + 1) r else (s.out, (i : Int) + 1, rerr t room s i c)
def rline (t : Bs) (room : Bool) : List Wd × Int × Int := rgo t room ⟨false, []⟩ 0 t
def addLn (out : List Ln) (n : Int) (ws : List Wd) : List Ln := if ws = [] then out else out ++ [(n, ws)]
def rlines (n : Int) (cur : Bs) (out : List Ln) : Bs → Res
  | [] => let r := rline cur (decide (out.length < 2000)); if r.2.2 = 0 then ⟨addLn out n r.1, 0, 0, 0⟩ else ⟨[], n, r.2.1, r.2.2⟩
  | c :: r =>
    if c.toNat = 10 then
      let q := rline cur (decide (out.length < 2000))
      if q.2.2 = 0 then rlines (n + 1) [] (addLn out n q.1) r else ⟨[], n, q.2.1, q.2.2⟩
    else rlines n (cur ++ [c]) out r
def docLines (t : Bs) : Res := if 65536 < t.length then ⟨[], 0, 0, 4⟩ else rlines 1 [] [] t

theorem run_ok {s : St} {c : UInt8} {r : Bs} (h : (takes s c).2 = 0) : run s (c :: r) = run (takes s c).1 r := by simp [run, h]
theorem run_bad {s : St} {c : UInt8} {r : Bs} (h : (takes s c).2 ≠ 0) : run s (c :: r) = takes s c := by simp [run, h]
theorem run_append (a b : Bs) : ∀ s, run s (a ++ b) = if (run s a).2 = 0 then run (run s a).1 b else run s a := by
  induction a with
  | nil => intro s; simp [run]
  | cons c r ih =>
    intro s
    by_cases h : (takes s c).2 = 0
    · rw [List.cons_append, run_ok h, ih, run_ok h]
    · rw [List.cons_append, run_bad h, run_bad h, if_neg h]

theorem wordAt_of {t : Bs} {i : Nat} {c : UInt8} {r : Bs} (h : t.drop i = c :: r) (hc : part c = true) : wordAt t i = c :: r.takeWhile part := by
  unfold wordAt; rw [h]; simp [hc]

/-- what holds within a line -/
structure Inv (t : Bs) (room : Bool) (p : St) (s : RS) (i : Nat) : Prop where
  col : p.col = i
  off : p.off = s.off
  none : p.frm = 0 → p.word = [] ∧ s.out = p.words ∧ (p.off = true ∨ i = 0 ∨ part (t.getD (i - 1) 0) = false)
  some : p.frm ≠ 0 → p.off = false ∧ 0 < i ∧ part (t.getD (i - 1) 0) = true ∧ ∃ j : Nat, p.frm = (j : Int) + 1 ∧ s.out = p.words ++ [((j : Int) + 1, p.word ++ (t.drop i).takeWhile part)]
  nonneg : 0 ≤ p.frm
  room : room = decide (p.out.length < 2000)
  had : p.words ≠ [] ∨ p.frm ≠ 0 → p.out.length < 2000
  le : s.out.length ≤ 40

theorem part_iff (c : UInt8) : part c = true ↔ 32 < c.toNat ∧ c.toNat < 127 ∧ c.toNat ≠ 35 := by
  unfold part; simp [and_assoc]

theorem getD_of_drop {t : Bs} {i : Nat} {c : UInt8} {r : Bs} (h : t.drop i = c :: r) : t.getD i 0 = c ∧ t.drop (i + 1) = r ∧ i < t.length := by
  have hi : i < t.length := by
    rcases Nat.lt_or_ge i t.length with hi | hi
    · exact hi
    · rw [List.drop_eq_nil_of_le hi] at h; cases h
  rw [List.drop_eq_getElem_cons hi] at h
  injection h with h1 h2
  refine ⟨?_, h2, hi⟩
  simp [List.getD, hi, h1]

theorem step_inv {t : Bs} {room : Bool} {p : St} {s : RS} {i : Nat} {c : UInt8} {r : Bs} (h : Inv t room p s i) (hd : t.drop i = c :: r) (hc : c.toNat ≠ 10) :
    (takes p c).2 = rerr t room s i c ∧ (takes p c).1.col = (i : Int) + 1 ∧ (takes p c).1.line = p.line ∧ (takes p c).1.out = p.out ∧ ((takes p c).2 = 0 → Inv t room (takes p c).1 (rnext t s i c) (i + 1)) := by
  obtain ⟨hg, hd2, hi⟩ := getD_of_drop hd
  have hg2 : t.getD (i + 1 - 1) 0 = c := by rw [Nat.add_sub_cancel]; exact hg
  have hcol := h.col
  unfold takes
  rw [if_neg hc]
  by_cases hf : c.toNat < 32 ∨ 126 < c.toNat
  · rw [if_pos hf]
    have e1 : rerr t room s i c = 3 := by unfold rerr; rw [if_pos hf]
    exact ⟨e1.symm, by simp [onward, hcol], rfl, rfl, fun h => by cases h⟩
  rw [if_neg hf]
  have hr : rerr t room s i c = if rskip t s i c = true then 0 else if s.out.length = 40 ∨ room = false then 4 else 0 := by unfold rerr; rw [if_neg hf]
  by_cases ho : p.off = true
  · rw [if_pos ho]
    have hso : s.off = true := by rw [← h.off]; exact ho
    have hro : roff s c = true := by unfold roff; rw [hso]; rfl
    have hsk : rskip t s i c = true := by unfold rskip; rw [hro]; rfl
    have hf0 : p.frm = 0 := Classical.byContradiction fun hn => by have := (h.some hn).1; rw [ho] at this; cases this
    refine ⟨by rw [hr, if_pos hsk], by simp [onward, hcol], rfl, rfl, fun _ => ?_⟩
    have hn := h.none hf0
    exact ⟨by simp [onward, hcol], by simp [onward, rnext, hro, ho], fun _ => ⟨hn.1, by simp [rnext, hsk]; exact hn.2.1, .inl ho⟩, fun hx => absurd hf0 hx, h.nonneg, h.room, h.had, by simp only [rnext, if_pos hsk]; exact h.le⟩
  rw [if_neg ho]
  have hoff : p.off = false := by simpa using ho
  have hso : s.off = false := by rw [← h.off]; exact hoff
  have endsEq : ∀ b : Bool, b = roff s c → part c = false → rskip t s i c = true → Inv t room { ends (onward p) with off := b } (rnext t s i c) (i + 1) := by
    intro b hb hpc hsk
    refine ⟨by simp [ends, onward, hcol], by simp [rnext, hb], fun _ => ⟨rfl, ?_, .inr (.inr ?_)⟩, fun hx => absurd rfl hx, Int.le_refl _, h.room, ?_, by simp only [rnext, if_pos hsk]; exact h.le⟩
    · simp only [rnext, if_pos hsk]
      by_cases h0 : p.frm = 0
      · rw [(h.none h0).2.1]
        simp [ends, onward, h0]
      · obtain ⟨_, _, _, j, hj, hso⟩ := h.some h0
        rw [hso, hd]
        have hp : 0 < (j : Int) + 1 := by omega
        simp [ends, onward, hp, hj, hpc]
    · rw [hg2]; exact hpc
    · intro hne
      apply h.had
      by_cases h0 : p.frm = 0
      · left
        simpa [ends, onward, h0] using hne
      · exact .inr h0
  by_cases h35 : c.toNat = 35
  · rw [if_pos h35]
    have hpc : part c = false := by
      have := part_iff c
      cases hh : part c
      · rfl
      · have := this.1 hh; omega
    have hro : roff s c = true := by unfold roff; simp [h35]
    have hsk : rskip t s i c = true := by unfold rskip; rw [hro]; rfl
    exact ⟨by rw [hr, if_pos hsk], by simp [ends, onward, hcol], rfl, rfl, fun _ => endsEq true hro.symm hpc hsk⟩
  rw [if_neg h35]
  have hro : roff s c = false := by unfold roff; simp [hso, h35]
  by_cases h32 : c.toNat = 32
  · rw [if_pos h32]
    have hpc : part c = false := by
      have := part_iff c
      cases hh : part c
      · rfl
      · have := this.1 hh; omega
    have hsk : rskip t s i c = true := by unfold rskip; rw [hpc]; simp
    refine ⟨by rw [hr, if_pos hsk], by simp [ends, onward, hcol], rfl, rfl, fun _ => ?_⟩
    have := endsEq false hro.symm hpc hsk
    have e : ends (onward p) = { ends (onward p) with off := false } := by simp [ends, onward, hoff]
    rw [e]
    exact this
  rw [if_neg h32]
  have hpc : part c = true := (part_iff c).2 (by omega)
  by_cases h0 : p.frm = 0
  · have hn := h.none h0
    have hprev : (decide (0 < i) && part (t.getD (i - 1) 0)) = false := by
      rcases hn.2.2 with h1 | h1 | h1
      · rw [hoff] at h1; cases h1
      · simp [h1]
      · rw [h1]; simp
    have hsk : rskip t s i c = false := by unfold rskip; rw [hro, hpc, hprev]; rfl
    have hsk' : ¬ rskip t s i c = true := by rw [hsk]; simp
    rw [if_neg (by omega)]
    by_cases hm : mayBegin p = true
    · rw [if_pos hm]
      have hm' := hm
      unfold mayBegin at hm'
      simp only [Bool.and_eq_true, Bool.or_eq_true, decide_eq_true_eq] at hm'
      have hout : p.out.length < 2000 := by
        rcases hm'.2 with h1 | h1
        · exact h.had (.inl (List.ne_nil_of_length_pos h1))
        · exact h1
      have hl : s.out.length < 40 := by rw [hn.2.1]; exact hm'.1
      refine ⟨?_, by simp [onward, hcol], rfl, rfl, fun _ => ⟨by simp [onward, hcol], by simp [onward, rnext, hro, hoff], fun hx => ?_, fun _ => ⟨hoff, by omega, by rw [hg2]; exact hpc, i, by simp [hcol], ?_⟩, by simp; omega, h.room, fun _ => hout, ?_⟩⟩
      · rw [hr, if_neg hsk', if_neg]
        rintro (h1 | h1)
        · omega
        · rw [h.room] at h1; simp at h1; omega
      · exfalso
        simp at hx
        omega
      · simp only [rnext, if_neg hsk', hd2, hn.1, hn.2.1, onward]
        rw [wordAt_of hd hpc]
        rfl
      · simp only [rnext, if_neg hsk', List.length_append, List.length_singleton]
        omega
    · rw [if_neg hm]
      refine ⟨?_, by simp [onward, hcol], rfl, rfl, fun hx => by cases hx⟩
      rw [hr, if_neg hsk', if_pos]
      unfold mayBegin at hm
      simp only [Bool.and_eq_true, Bool.or_eq_true, decide_eq_true_eq] at hm
      have hle := h.le
      rw [hn.2.1] at hle ⊢
      by_cases h40 : p.words.length = 40
      · exact .inl h40
      · right
        rw [h.room]
        simp
        omega
  · obtain ⟨ha, hb, hpv, j, hj, hso2⟩ := h.some h0
    have hsk : rskip t s i c = true := by unfold rskip; rw [hpv]; simp [hb]
    have hp : 0 < p.frm := by omega
    rw [if_pos hp]
    refine ⟨by rw [hr, if_pos hsk], by simp [onward, hcol], rfl, rfl, fun _ => ⟨by simp [onward, hcol], by simp [onward, rnext, hro, hoff], fun hx => absurd hx h0, fun _ => ⟨hoff, by omega, by rw [hg2]; exact hpc, j, hj, ?_⟩, h.nonneg, h.room, h.had, by simp only [rnext, if_pos hsk]; exact h.le⟩⟩
    simp only [rnext, if_pos hsk, onward]
    rw [hso2, hd, hd2]
    simp [hpc]

theorem line_inv {t : Bs} {room : Bool} (r : Bs) : ∀ (p : St) (s : RS) (i : Nat), Inv t room p s i → t.drop i = r → (∀ c ∈ r, c.toNat ≠ 10) →
    (run p r).2 = (rgo t room s i r).2.2 ∧ (run p r).1.line = p.line ∧ (run p r).1.out = p.out ∧ ((run p r).2 ≠ 0 → (run p r).1.col = (rgo t room s i r).2.1) ∧ ((run p r).2 = 0 → (ends (run p r).1).words = (rgo t room s i r).1) := by
  induction r with
  | nil =>
    intro p s i h hd _
    refine ⟨rfl, rfl, rfl, fun hx => absurd rfl hx, fun _ => ?_⟩
    simp only [run, rgo]
    by_cases h0 : p.frm = 0
    · rw [(h.none h0).2.1]; simp [ends, h0]
    · obtain ⟨_, _, _, j, hj, hso⟩ := h.some h0
      have hp : 0 < (j : Int) + 1 := by omega
      rw [hso, hd]
      simp [ends, hj, hp]
  | cons c r ih =>
    intro p s i h hd hn
    obtain ⟨e1, e2, e3, e4, e5⟩ := step_inv h hd (hn c (by simp))
    simp only [rgo, ← e1]
    by_cases hz : (takes p c).2 = 0
    · rw [run_ok hz, if_pos hz]
      obtain ⟨f1, f2, f3, f4, f5⟩ := ih _ _ (i + 1) (e5 hz) (getD_of_drop hd).2.1 (fun x hx => hn x (by simp [hx]))
      exact ⟨f1, f2.trans e3, f3.trans e4, f4, f5⟩
    · rw [run_bad hz, if_neg hz]
      exact ⟨rfl, e3, e4, fun _ => e2, fun hx => absurd hx hz⟩

/-- a line's begin -/
def fresh (n : Int) (out : List Ln) : St := ⟨n, 0, 0, false, [], [], out⟩
theorem inv0 (t : Bs) (n : Int) (out : List Ln) : Inv t (decide (out.length < 2000)) (fresh n out) ⟨false, []⟩ 0 :=
  ⟨rfl, rfl, fun _ => ⟨rfl, rfl, .inr (.inl rfl)⟩, fun h => absurd rfl h, Int.le_refl _, rfl, fun h => by rcases h with h | h <;> exact absurd rfl h, by simp⟩
theorem line_all (t : Bs) (n : Int) (out : List Ln) (h : ∀ c ∈ t, c.toNat ≠ 10) :
    (run (fresh n out) t).2 = (rline t (decide (out.length < 2000))).2.2 ∧ (run (fresh n out) t).1.line = n ∧ (run (fresh n out) t).1.out = out ∧ ((run (fresh n out) t).2 ≠ 0 → (run (fresh n out) t).1.col = (rline t (decide (out.length < 2000))).2.1) ∧
    ((run (fresh n out) t).2 = 0 → (ends (run (fresh n out) t).1).words = (rline t (decide (out.length < 2000))).1) :=
  line_inv t _ _ 0 (inv0 t n out) rfl h

theorem breaks_eq (p : St) (n : Int) (out : List Ln) (ws : List Wd) (hl : p.line = n) (ho : p.out = out) (hw : (ends p).words = ws) : breaks p = fresh (n + 1) (addLn out n ws) := by
  subst hl; subst ho; subst hw
  rfl

theorem rlines_eq (r : Bs) : ∀ (n : Int) (cur : Bs) (out : List Ln), (∀ c ∈ cur, c.toNat ≠ 10) → rlines n cur out r = close (run (fresh n out) (cur ++ r)) := by
  induction r with
  | nil =>
    intro n cur out hc
    obtain ⟨e1, e2, e3, e4, e5⟩ := line_all cur n out hc
    rw [List.append_nil]
    unfold rlines close
    dsimp only
    rw [← e1]
    by_cases hz : (run (fresh n out) cur).2 = 0
    · rw [if_pos hz, if_pos hz, breaks_eq _ n out _ e2 e3 (e5 hz)]
      rfl
    · rw [if_neg hz, if_neg hz, e2, e4 hz]
  | cons c r ih =>
    intro n cur out hc
    unfold rlines
    by_cases h10 : c.toNat = 10
    · rw [if_pos h10]
      dsimp only
      obtain ⟨e1, e2, e3, e4, e5⟩ := line_all cur n out hc
      rw [run_append, ← e1]
      by_cases hz : (run (fresh n out) cur).2 = 0
      · rw [if_pos hz, if_pos hz, ih _ _ _ (by simp)]
        have : run (run (fresh n out) cur).1 (c :: r) = run (fresh (n + 1) (addLn out n (rline cur (decide (out.length < 2000))).1)) r := by
          have h1 : takes (run (fresh n out) cur).1 c = (breaks (onward (run (fresh n out) cur).1), 0) := by unfold takes; rw [if_pos h10]
          rw [run_ok (by rw [h1]), h1]
          rw [breaks_eq (onward (run (fresh n out) cur).1) n out (rline cur (decide (out.length < 2000))).1 e2 e3 (e5 hz)]
        rw [this]
        rfl
      · rw [if_neg hz, if_neg hz]
        unfold close
        rw [if_neg hz, e2, e4 hz]
    · rw [if_neg h10, ih _ _ _ (by
        intro x hx
        rcases List.mem_append.1 hx with hx | hx
        · exact hc x hx
        · simp at hx; rw [hx]; exact h10)]
      simp

theorem lines_eq (t : Bs) : lines t = docLines t := by
  unfold lines docLines
  by_cases h : 65536 < t.length
  · rw [if_pos h, if_pos h]
  · rw [if_neg h, if_neg h, rlines_eq t 1 [] [] (by simp)]
    rfl
end Go.Proofs.Ytoljhahmmdibfaa.LexM
