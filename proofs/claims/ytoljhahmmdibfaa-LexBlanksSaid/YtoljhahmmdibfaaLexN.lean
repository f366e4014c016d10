/- Plain facts: the text of a text's lines is not much longer than it. No condition. -/
import Derived.Test.YtoljhahmmdibfaaLexQ
import Derived.Test.YtoljhahmmdibfaaLexZ
namespace Go.Proofs.Ytoljhahmmdibfaa
open LexM (Bs Wd Ln St)
def wlen (ws : List Wd) : Nat := (ws.map fun x => x.2.length + 1).sum
theorem wlen_app (a b : List Wd) : wlen (a ++ b) = wlen a + wlen b := by simp [wlen]
theorem wt_wlen (ws : List Wd) : (wt ws).length ≤ wlen ws := by
  cases ws with
  | nil => simp [wt]
  | cons x r =>
    have : (r.flatMap fun y => (32 : UInt8) :: y.2).length = wlen r := by
      induction r with
      | nil => rfl
      | cons y r ih => simp [List.flatMap_cons, wlen] at ih ⊢; omega
    simp only [wt, List.length_append, this]
    simp [wlen]
theorem ltx_app (a b : List Ln) : ltx (a ++ b) = ltx a ++ ltx b := by simp [ltx]
def tot (s : St) : Nat := (ltx s.out).length + wlen s.words + (if 0 < s.frm then s.word.length + 1 else 0)
theorem ends_tot (s : St) : tot (LexM.ends s) ≤ tot s := by
  unfold tot LexM.ends
  dsimp only
  by_cases h : 0 < s.frm
  · rw [if_pos h, if_pos h, if_neg (by decide), wlen_app]
    simp [wlen]
    omega
  · rw [if_neg h, if_neg h, if_neg (by decide)]; omega
theorem breaks_tot (s : St) : tot (LexM.breaks s) ≤ tot s + 1 := by
  have h1 := ends_tot s
  have hw := wt_wlen (LexM.ends s).words
  unfold LexM.breaks
  unfold tot at h1 ⊢
  dsimp only
  have e0 : (LexM.ends s).out = s.out := rfl
  have e1 : ¬ (0 : Int) < (LexM.ends s).frm := by unfold LexM.ends; exact (by decide : ¬ (0 : Int) < 0)
  rw [if_neg e1] at h1 ⊢
  rw [e0] at h1
  have hz : wlen ([] : List Wd) = 0 := rfl
  split
  · rw [hz]; omega
  · rw [ltx_app, List.length_append, hz]
    have : (ltx [(s.line, (LexM.ends s).words)]).length = (wt (LexM.ends s).words).length + 1 := by simp [ltx]
    omega
theorem takes_tot (s : St) (c : UInt8) : tot (LexM.takes s c).1 ≤ tot s + 2 + (if 0 < s.frm then 0 else s.word.length) := by
  have ho : tot (LexM.onward s) = tot s := rfl
  have h1 := ends_tot (LexM.onward s)
  have h2 := breaks_tot (LexM.onward s)
  unfold LexM.takes
  split
  · dsimp only; omega
  · split
    · dsimp only; omega
    · split
      · dsimp only; omega
      · split
        · have : tot { LexM.ends (LexM.onward s) with off := true } = tot (LexM.ends (LexM.onward s)) := rfl
          dsimp only at this ⊢
          omega
        · split
          · dsimp only; omega
          · split
            · rename_i hf
              unfold tot LexM.onward
              dsimp only
              rw [if_pos hf, if_pos hf]
              simp
              omega
            · rename_i hf
              split
              · unfold tot LexM.onward
                dsimp only
                rw [if_neg hf]
                split <;> simp <;> omega
              · unfold tot LexM.onward
                dsimp only
                rw [if_neg hf]
                split <;> omega
/-- where no word is begun there is none -/
def Calm (s : St) : Prop := ¬ 0 < s.frm → s.word = []
theorem takes_calm (s : St) (c : UInt8) (h : Calm s) (hc : 0 ≤ s.col) (hz : (LexM.takes s c).2 = 0) : Calm (LexM.takes s c).1 := by
  unfold LexM.takes at hz ⊢
  split
  · intro _; rfl
  · split
    · exact h
    · split
      · exact h
      · split
        · intro _; rfl
        · split
          · intro _; rfl
          · split
            · rename_i hf; intro h2; exact absurd hf h2
            · split
              · intro h2
                simp only [LexM.onward] at h2
                omega
              · rename_i c10 cA co c35 c32 cf cm
                rw [if_neg c10, if_neg cA, if_neg co, if_neg c35, if_neg c32, if_neg cf, if_neg cm] at hz
                cases hz
theorem takes_col (s : St) (c : UInt8) (hc : 0 ≤ s.col) : 0 ≤ (LexM.takes s c).1.col := by
  unfold LexM.takes
  (repeat' split) <;> simp only [LexM.breaks, LexM.ends, LexM.onward] <;> omega
theorem run_tot (t : Bs) : ∀ s, Calm s → 0 ≤ s.col → (LexM.run s t).2 = 0 → tot (LexM.run s t).1 ≤ tot s + 2 * t.length := by
  induction t with
  | nil => intro s _ _ _; exact Nat.le_refl _
  | cons c r ih =>
    intro s h hc h0
    by_cases hz : (LexM.takes s c).2 = 0
    · rw [LexM.run_ok hz] at h0 ⊢
      have h1 := ih _ (takes_calm s c h hc hz) (takes_col s c hc) h0
      have h2 := takes_tot s c
      have h3 : (if 0 < s.frm then 0 else s.word.length) = 0 := by
        split
        · rfl
        · rename_i hf; rw [h hf]; rfl
      rw [List.length_cons]
      omega
    · rw [LexM.run_bad hz] at h0; exact absurd h0 hz
theorem lines_ltx (t : Bs) : (ltx (LexM.lines t).lines).length ≤ 200000 := by
  unfold LexM.lines
  split
  · simp [ltx]
  · rename_i hl
    unfold LexM.close
    split
    · rename_i h0
      have h1 := run_tot t LexM.st0 (fun _ => rfl) (Int.le_refl _) h0
      have h2 := breaks_tot (LexM.run LexM.st0 t).1
      have h3 : tot LexM.st0 = 0 := rfl
      have h4 : (ltx (LexM.breaks (LexM.run LexM.st0 t).1).out).length ≤ tot (LexM.breaks (LexM.run LexM.st0 t).1) := by unfold tot; omega
      dsimp only
      omega
    · simp [ltx]
def joinT : List Bs → Bs
  | [] => []
  | x :: r => x ++ r.flatMap fun y => 32 :: y
theorem wt_texts (ws : List Wd) : wt ws = joinT (LexM.texts ws) := by
  cases ws with
  | nil => rfl
  | cons x r => simp [wt, joinT, LexM.texts, List.flatMap_map]
theorem ltx_texts (l : List Ln) : ltx l = (LexM.outTexts l).flatMap fun ts => joinT ts ++ [10] := by
  unfold ltx LexM.outTexts
  rw [List.flatMap_map]
  congr 1
  funext ln
  simp only [wt_texts]
end Go.Proofs.Ytoljhahmmdibfaa
