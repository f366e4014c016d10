/- Plain facts on a row of words that are alike, and on many lines of one word. No condition. -/
import Derived.Test.YtoljhahmmdibfaaLexM
namespace Go.Proofs.Ytoljhahmmdibfaa.LexM
/-- a text so often -/
def rep (t : Bs) : Nat → Bs
  | 0 => []
  | k + 1 => rep t k ++ t
theorem rep_len (t : Bs) (k : Nat) : (rep t k).length = k * t.length := by
  induction k with
  | zero => simp [rep]
  | succ k ih => simp [rep, ih, Nat.succ_mul]
def rowSt (k : Nat) : St := ⟨1, 2 * k, 0, false, [], (List.range k).map fun i : Nat => (2 * (i : Int) + 1, [97]), []⟩
theorem run_row (k : Nat) (h : k ≤ 40) : run st0 (rep [97, 32] k) = (rowSt k, 0) := by
  induction k with
  | zero => rfl
  | succ k ih =>
    rw [rep, run_append, ih (by omega), if_pos rfl]
    have hb : mayBegin (rowSt k) = true := by unfold mayBegin rowSt; simp; omega
    have h1 : takes (rowSt k) 97 = ({ rowSt k with col := 2 * (k : Int) + 1, frm := 2 * (k : Int) + 1, word := [97] }, 0) := by
      unfold takes
      rw [if_neg (by decide), if_neg (by decide), if_neg (by simp [rowSt]), if_neg (by decide), if_neg (by decide), if_neg (by simp [rowSt]), if_pos hb]
      rfl
    have h2 : takes { rowSt k with col := 2 * (k : Int) + 1, frm := 2 * (k : Int) + 1, word := [97] } 32 = (rowSt (k + 1), 0) := by
      unfold takes
      rw [if_neg (by decide), if_neg (by decide), if_neg (by simp [rowSt]), if_neg (by decide), if_pos (by decide)]
      have hp : 0 < 2 * (k : Int) + 1 := by omega
      simp only [ends, onward, rowSt, List.range_succ, List.map_append, List.map_cons, List.map_nil, hp, if_true]
      simp
      omega
    rw [run_ok (by rw [h1]), h1]
    rw [run_ok (by rw [h2]), h2]
    rfl
theorem rep_more (t : Bs) (k j : Nat) : rep t (k + j) = rep t k ++ rep t j := by
  induction j with
  | zero => simp [rep]
  | succ j ih => rw [← Nat.add_assoc, rep, ih, rep, List.append_assoc]
theorem rep_cons (t : Bs) (j : Nat) : rep t (j + 1) = t ++ rep t j := by
  rw [Nat.add_comm, rep_more]
  simp [rep]
theorem lines_row (n : Nat) (h : n ≤ 40) : lines (rep [97, 32] n) = ⟨if n = 0 then [] else [(1, (List.range n).map fun i : Nat => (2 * (i : Int) + 1, [97]))], 0, 0, 0⟩ := by
  unfold lines
  rw [if_neg (by rw [rep_len]; simp; omega), run_row n h]
  unfold close
  rw [if_pos rfl]
  by_cases h0 : n = 0
  · subst h0; rfl
  · simp [h0, breaks, ends, rowSt]
theorem lines_rowLong (n : Nat) (h : 40 < n) (h2 : n ≤ 1000) : lines (rep [97, 32] n) = ⟨[], 1, 81, 4⟩ := by
  unfold lines
  rw [if_neg (by rw [rep_len]; simp; omega)]
  have e : n = 40 + (n - 41 + 1) := by omega
  rw [e, rep_more, rep_cons [97, 32] (n - 41), run_append, run_row 40 (Nat.le_refl _), if_pos rfl]
  have h1 : takes (rowSt 40) 97 = ({ rowSt 40 with col := 81, frm := 81 }, 4) := by rfl
  rw [List.cons_append, run_bad (by rw [h1]; decide), h1]
  rfl
def colSt (k : Nat) : St := ⟨2 * k + 1, 0, 0, false, [], [], (List.range k).map fun i : Nat => (2 * (i : Int) + 2, [(2, [98])])⟩
theorem run_col (k : Nat) (h : k ≤ 2000) : run st0 (rep [10, 32, 98, 10] k) = (colSt k, 0) := by
  induction k with
  | zero => rfl
  | succ k ih =>
    rw [rep, run_append, ih (by omega), if_pos rfl]
    have h1 : takes (colSt k) 10 = ({ colSt k with line := 2 * (k : Int) + 2 }, 0) := by
      unfold takes
      rw [if_pos (by decide)]
      simp only [breaks, ends, onward, colSt]
      simp
      omega
    have h2 : takes { colSt k with line := 2 * (k : Int) + 2 } 32 = ({ colSt k with line := 2 * (k : Int) + 2, col := 1 }, 0) := by
      unfold takes
      rw [if_neg (by decide), if_neg (by decide), if_neg (by simp [colSt]), if_neg (by decide), if_pos (by decide)]
      rfl
    have hb : mayBegin { colSt k with line := 2 * (k : Int) + 2, col := 1 } = true := by unfold mayBegin colSt; simp; omega
    have h3 : takes { colSt k with line := 2 * (k : Int) + 2, col := 1 } 98 = ({ colSt k with line := 2 * (k : Int) + 2, col := 2, frm := 2, word := [98] }, 0) := by
      unfold takes
      rw [if_neg (by decide), if_neg (by decide), if_neg (by simp [colSt]), if_neg (by decide), if_neg (by decide), if_neg (by simp [colSt]), if_pos hb]
      rfl
    have h4 : takes { colSt k with line := 2 * (k : Int) + 2, col := 2, frm := 2, word := [98] } 10 = (colSt (k + 1), 0) := by
      unfold takes
      rw [if_pos (by decide)]
      simp only [breaks, ends, onward, colSt, List.range_succ, List.map_append, List.map_cons, List.map_nil]
      simp
      omega
    rw [run_ok (by rw [h1]), h1, run_ok (by rw [h2]), h2, run_ok (by rw [h3]), h3, run_ok (by rw [h4]), h4]
    rfl
theorem lines_col (m : Nat) (h : m ≤ 2000) : lines (rep [10, 32, 98, 10] m) = ⟨(List.range m).map fun i : Nat => (2 * (i : Int) + 2, [(2, [98])]), 0, 0, 0⟩ := by
  unfold lines
  rw [if_neg (by rw [rep_len]; simp; omega), run_col m h]
  rfl
theorem lines_colMore (k j : Nat) (h : k = 2000) (h2 : k + (j + 1) ≤ 10000) : lines (rep [10, 32, 98, 10] (k + (j + 1))) = ⟨[], 2 * (k : Int) + 2, 2, 4⟩ := by
  unfold lines
  rw [if_neg (by rw [rep_len]; simp; omega)]
  rw [rep_more, rep_cons [10, 32, 98, 10] j, run_append, run_col k (by omega), if_pos rfl]
  have h1 : takes (colSt k) 10 = ({ colSt k with line := 2 * (k : Int) + 2 }, 0) := by
    unfold takes
    rw [if_pos (by decide)]
    simp only [breaks, ends, onward, colSt]
    simp
    omega
  have h2 : takes { colSt k with line := 2 * (k : Int) + 2 } 32 = ({ colSt k with line := 2 * (k : Int) + 2, col := 1 }, 0) := by
    unfold takes
    rw [if_neg (by decide), if_neg (by decide), if_neg (by simp [colSt]), if_neg (by decide), if_pos (by decide)]
    rfl
  have hb : ¬ mayBegin { colSt k with line := 2 * (k : Int) + 2, col := 1 } = true := by unfold mayBegin colSt; simp; omega
  have h3 : takes { colSt k with line := 2 * (k : Int) + 2, col := 1 } 98 = ({ colSt k with line := 2 * (k : Int) + 2, col := 2, frm := 2 }, 4) := by
    unfold takes
    rw [if_neg (by decide), if_neg (by decide), if_neg (by simp [colSt]), if_neg (by decide), if_neg (by decide), if_neg (by simp [colSt]), if_neg hb]
    rfl
  rw [List.cons_append, run_ok (by rw [h1]), h1, List.cons_append, run_ok (by rw [h2]), h2, List.cons_append, run_bad (by rw [h3]; exact (by decide : (4 : Int) ≠ 0)), h3]
  rfl
theorem lines_colLong (m : Nat) (h : 2000 < m) (h2 : m ≤ 10000) : lines (rep [10, 32, 98, 10] m) = ⟨[], 4002, 2, 4⟩ := by
  obtain ⟨k, hk⟩ : ∃ k, k = 2000 := ⟨_, rfl⟩
  have e : m = k + ((m - 2001) + 1) := by omega
  rw [e, lines_colMore k _ hk (by omega)]
  have : 2 * (k : Int) + 2 = 4002 := by omega
  rw [this]
end Go.Proofs.Ytoljhahmmdibfaa.LexM
