/- Walks and plain facts. Texts merged: StbA, SpsF, App, SortA, SpsC, StR, SpsR, SpsK, SpsA, StbB, SortR, SpsG, SpsH, IdxM, IdxSpan, StbSpanK, StbSpanR, StbSpanM. Condition: none beyond what each says. -/
import Derived.Sort.LotA
import Derived.Sort.WalkA
import Derived.Shelf.SlSortCmp.Insertion
import Derived.Laws.IdiomCopy
import Derived.Shelf.SlSortCmp.QuietGrown
import Derived.Deep.LoopGhost
import Derived.BigRegion
import Derived.Test.YteailgjiifdgcaaGreatDoorPrintSpecsApartAll4
set_option linter.unusedVariables false
set_option linter.unusedSimpArgs false
/- Plain facts: what the walks of the stable sort do to an array, told by lists: swaps, exchanges of runs, rotations, binary search, symMerge. -/
namespace Go.Proofs.YteailgjiifdgcaaGreatDoor.StbA
open Go.Sort Go.Proofs.YteailgjiifdgcaaGreatDoor.SortM
variable {α : Type}
theorem set_mid (p q : List α) (x y : α) (i : Nat) (hi : i = p.length) : (p ++ x :: q).set i y = p ++ y :: q := by subst hi; simp
def RInv (tgt : List α) (m i j : Nat) (d : Array α) : Prop := ∃ p u v q, d.toList = p ++ u ++ v ++ q ∧ u.length = i ∧ v.length = j ∧ p.length + i = m ∧ tgt = p ++ v ++ u ++ q
theorem RInv.start {d : Array α} {p u v q : List α} (h : d.toList = p ++ u ++ v ++ q) {m i j : Nat} (hi : i = u.length) (hj : j = v.length) (hm : m = p.length + u.length) : RInv (p ++ v ++ u ++ q) m i j d := ⟨p, u, v, q, h, hi.symm, hj.symm, by omega, rfl⟩
theorem RInv.size {tgt : List α} {m i j : Nat} {d : Array α} (h : RInv tgt m i j d) : d.size = tgt.length := by
 obtain ⟨p, u, v, q, h1, _, _, _, h5⟩ := h
 rw [← Array.length_toList, h1, h5]; simp; omega
theorem RInv.le {tgt : List α} {m i j : Nat} {d : Array α} (h : RInv tgt m i j d) : i ≤ m ∧ m + j ≤ d.size := by
 obtain ⟨p, u, v, q, h1, h2, h3, h4, h5⟩ := h
 rw [← Array.length_toList, h1]; simp; omega
theorem swo_of {lt : α → α → Bool} (h : Swo lt) : SWO lt := ⟨irrefl h, fun x y z h1 h2 => by
  cases e : lt x z
  ·have := h.ntrans y z x (h.asymm _ _ h2) e
   rw [h1] at this; cases this
  ·rfl, fun x y z h1 h2 => h.ntrans z y x h2 h1⟩
variable [Inhabited α]
theorem get_of {d : Array α} {p q : List α} {x : α} (h : d.toList = p ++ x :: q) {i : Nat} (hi : i = p.length) : d[i]! = x := by
 subst hi
 have hl : p.length < d.size := by rw [← Array.length_toList, h]; simp
 rw [getElem!_pos d _ hl, ← Array.getElem_toList]
 simp [h]
theorem toList_swp (d : Array α) (i j : Nat) : (swp d i j).toList = (d.toList.set i d[j]!).set j d[i]! := by simp [swp]
theorem swp_split {d : Array α} {p m q : List α} {x y : α} (h : d.toList = p ++ x :: (m ++ y :: q)) {i j : Nat} (hi : i = p.length) (hj : j = p.length + 1 + m.length) : (swp d i j).toList = p ++ y :: (m ++ x :: q) := by
 have h1 : d[i]! = x := get_of h hi
 have h2 : d[j]! = y := get_of (p := p ++ x :: m) (q := q) (by rw [h]; simp) (by simp; omega)
 rw [toList_swp, h1, h2, h, set_mid p _ x y i hi]
 have e : p ++ y :: (m ++ y :: q) = (p ++ y :: m) ++ y :: q := by simp
 rw [e, set_mid _ _ _ _ _ (by simp; omega)]
 simp
theorem swp_comm (d : Array α) (i j : Nat) : swp d i j = swp d j i := by
 apply Array.ext'
 rw [toList_swp, toList_swp]
 by_cases h : i = j
 ·subst h; rfl
 ·exact List.set_comm _ _ h
theorem swp_split' {d : Array α} {p m q : List α} {x y : α} (h : d.toList = p ++ x :: (m ++ y :: q)) {i j : Nat} (hi : i = p.length) (hj : j = p.length + 1 + m.length) : (swp d j i).toList = p ++ y :: (m ++ x :: q) := by
 rw [swp_comm]; exact swp_split h hi hj

def swr (d : Array α) (a b : Nat) : Nat → Array α
 | 0 => d
 | i + 1 => swp (swr d a b i) (a + i) (b + i)
theorem size_swr (d : Array α) (a b n : Nat) : (swr d a b n).size = d.size := by
 induction n with
 | zero => rfl
 | succ n ih => rw [swr, size_swp, ih]
theorem swr_rev (d : Array α) : ∀ (x y p m q : List α), x.length = y.length → d.toList = p ++ x.reverse ++ m ++ y.reverse ++ q → (swr d p.length (p.length + x.length + m.length) x.length).toList = p ++ y.reverse ++ m ++ x.reverse ++ q := by
 intro x
 induction x with
 | nil =>
  intro y p m q hl h
  obtain rfl : y = [] := List.eq_nil_of_length_eq_zero hl.symm
  exact h
 | cons u x ih =>
  intro y p m q hl h
  match y with
  | [] => simp at hl
  | v :: y =>
   have hl' : x.length = y.length := by simpa using hl
   have h1 := ih y p (u :: m) (v :: q) hl' (by rw [h]; simp)
   have e : p.length + (u :: x).length + m.length = p.length + x.length + (u :: m).length := by simp; omega
   rw [e, show (u :: x).length = x.length + 1 from rfl, swr]
   have h2 := swp_split (d := swr d p.length (p.length + x.length + (u :: m).length) x.length) (p := p ++ y.reverse) (m := m ++ x.reverse) (q := q) (x := u) (y := v) (by rw [h1]; simp) (i := p.length + x.length) (j := p.length + x.length + (u :: m).length + x.length) (by simp; omega) (by simp; omega)
   rw [h2]; simp
theorem swr_split {d : Array α} {p x m y q : List α} (hl : x.length = y.length) (h : d.toList = p ++ x ++ m ++ y ++ q) {a b n : Nat} (ha : a = p.length) (hb : b = p.length + x.length + m.length) (hn : n = x.length) : (swr d a b n).toList = p ++ y ++ m ++ x ++ q := by
 subst ha hb hn
 have := swr_rev d x.reverse y.reverse p m q (by simpa using hl) (by simpa using h)
 simpa using this

theorem RInv.gt {tgt : List α} {m i j : Nat} {d : Array α} (h : RInv tgt m i j d) (hij : j < i) : RInv tgt m (i - j) j (swr d (m - i) m j) := by
 obtain ⟨p, u, v, q, h1, h2, h3, h4, h5⟩ := h
 have hu : u = u.take j ++ u.drop j := (List.take_append_drop _ _).symm
 have hx : (u.take j).length = j := by simp; omega
 have hy : (u.drop j).length = i - j := by simp; omega
 generalize u.take j = x at hu hx
 generalize u.drop j = y at hu hy
 subst hu
 refine ⟨p ++ v, y, x, q, ?_, hy, hx, by simp; omega, by rw [h5]; simp⟩
 have := swr_split (d := d) (p := p) (x := x) (m := y) (y := v) (q := q) (by omega) (by rw [h1]; simp) (a := m - i) (b := m) (n := j) (by omega) (by simp at h2; omega) hx.symm
 rw [this]
theorem RInv.lt {tgt : List α} {m i j : Nat} {d : Array α} (h : RInv tgt m i j d) (hij : i < j) : RInv tgt m i (j - i) (swr d (m - i) (m + j - i) i) := by
 obtain ⟨p, u, v, q, h1, h2, h3, h4, h5⟩ := h
 have hv : v = v.take (j - i) ++ v.drop (j - i) := (List.take_append_drop _ _).symm
 have hx : (v.take (j - i)).length = j - i := by simp; omega
 have hy : (v.drop (j - i)).length = i := by simp; omega
 generalize v.take (j - i) = x at hv hx
 generalize v.drop (j - i) = y at hv hy
 subst hv
 refine ⟨p, y, x, u ++ q, ?_, hy, hx, by omega, by rw [h5]; simp⟩
 have := swr_split (d := d) (p := p) (x := u) (m := x) (y := y) (q := q) (by omega) (by rw [h1]; simp) (a := m - i) (b := m + j - i) (n := i) (by omega) (by omega) h2.symm
 rw [this]; simp
theorem RInv.eq {tgt : List α} {m i : Nat} {d : Array α} (h : RInv tgt m i i d) : (swr d (m - i) m i).toList = tgt := by
 obtain ⟨p, u, v, q, h1, h2, h3, h4, h5⟩ := h
 rw [h5]
 have := swr_split (d := d) (p := p) (x := u) (m := []) (y := v) (q := q) (by omega) (by rw [h1]; simp) (a := m - i) (b := m) (n := i) (by omega) (by simp; omega) h2.symm
 rw [this]; simp
def upN (d : Array α) (a : Nat) : Nat → Array α
 | 0 => d
 | n + 1 => swp (upN d a n) (a + n) (a + n + 1)
def dnN (d : Array α) (m : Nat) : Nat → Array α
 | 0 => d
 | n + 1 => swp (dnN d m n) (m - n) (m - n - 1)
theorem size_upN (d : Array α) (a n : Nat) : (upN d a n).size = d.size := by
 induction n with
 | zero => rfl
 | succ n ih => rw [upN, size_swp, ih]
theorem size_dnN (d : Array α) (a n : Nat) : (dnN d a n).size = d.size := by
 induction n with
 | zero => rfl
 | succ n ih => rw [dnN, size_swp, ih]
theorem upN_rev (d : Array α) (x : α) (p : List α) : ∀ (v q : List α), d.toList = p ++ x :: (v.reverse ++ q) → (upN d p.length v.length).toList = p ++ v.reverse ++ x :: q := by
 intro v
 induction v with
 | nil => intro q h; simpa [upN] using h
 | cons y v ih =>
  intro q h
  have h1 := ih (y :: q) (by rw [h]; simp)
  have h2 := swp_split (d := upN d p.length v.length) (p := p ++ v.reverse) (m := []) (q := q) (x := x) (y := y) (by rw [h1]; simp) (i := p.length + v.length) (j := p.length + v.length + 1) (by simp) (by simp)
  rw [show (y :: v).length = v.length + 1 from rfl, upN, h2]; simp
theorem upN_split {d : Array α} {x : α} {p v q : List α} (h : d.toList = p ++ x :: (v ++ q)) {a n : Nat} (ha : a = p.length) (hn : n = v.length) : (upN d a n).toList = p ++ v ++ x :: q := by
 subst ha hn
 have := upN_rev d x p v.reverse q (by simpa using h)
 simpa using this
theorem dnN_split' (d : Array α) (x : α) (q : List α) (m : Nat) : ∀ (v p : List α), m = p.length + v.length → d.toList = p ++ v ++ x :: q → (dnN d m v.length).toList = p ++ x :: (v ++ q) := by
 intro v
 induction v with
 | nil => intro p _ h; simpa [dnN] using h
 | cons y v ih =>
  intro p hm h
  have hm' : m = p.length + (v.length + 1) := by simpa using hm
  have h1 := ih (p ++ [y]) (by simp; omega) (by rw [h]; simp)
  have h2 := swp_split' (d := dnN d m v.length) (p := p) (m := []) (q := v ++ q) (x := y) (y := x) (by rw [h1]; simp) (i := m - v.length - 1) (j := m - v.length) (by omega) (by simp; omega)
  rw [show (y :: v).length = v.length + 1 from rfl, dnN, h2]; simp
theorem dnN_split {d : Array α} {x : α} {p v q : List α} (h : d.toList = p ++ v ++ x :: q) {m n : Nat} (hm : m = p.length + v.length) (hn : n = v.length) : (dnN d m n).toList = p ++ x :: (v ++ q) := by
 subst hn; exact dnN_split' d x q m v p hm h

structure BS (f : Nat → Bool) (lo hi i j : Nat) : Prop where
 l1 : lo ≤ i
 l2 : i ≤ j
 l3 : j ≤ hi
 yes : ∀ c, lo ≤ c → c < i → f c = true
 no : ∀ c, j ≤ c → c < hi → f c = false
def Mono (f : Nat → Bool) (lo hi : Nat) : Prop := ∀ c c', lo ≤ c' → c' ≤ c → c < hi → f c = true → f c' = true
theorem BS.start (f : Nat → Bool) {lo hi : Nat} (h : lo ≤ hi) : BS f lo hi lo hi := ⟨Nat.le_refl _, h, Nat.le_refl _, fun _ _ _ => by omega, fun _ _ _ => by omega⟩
theorem BS.left {f : Nat → Bool} {lo hi i j h : Nat} (hM : Mono f lo hi) (hB : BS f lo hi i j) (h1 : i ≤ h) (h2 : h < j) (hf : f h = true) : BS f lo hi (h + 1) j :=
 ⟨by have := hB.l1; omega, h2, hB.l3, fun c hc1 hc2 => hM h c hc1 (by omega) (by have := hB.l3; omega) hf, hB.no⟩
theorem BS.right {f : Nat → Bool} {lo hi i j h : Nat} (hM : Mono f lo hi) (hB : BS f lo hi i j) (h1 : i ≤ h) (h2 : h < j) (hf : f h = false) : BS f lo hi i h :=
 ⟨hB.l1, h1, by have := hB.l3; omega, hB.yes, fun c hc1 hc2 => by
  cases e : f c
  ·rfl
  ·have := hM c h (by have := hB.l1; omega) hc1 hc2 e; rw [hf] at this; cases this⟩

variable {lt : α → α → Bool}
def SortedIx (lt : α → α → Bool) (a b : Nat) (d : Array α) : Prop := ∀ i j, a ≤ i → i ≤ j → j < b → lt d[j]! d[i]! = false
theorem sortedIx_of (h : Swo lt) {d : Array α} {p u q : List α} (hd : d.toList = p ++ u ++ q) (hu : Sorted lt u) {a b : Nat} (ha : a = p.length) (hb : b = p.length + u.length) : SortedIx lt a b d := by
 intro i j hi hij hj
 rcases Nat.lt_or_eq_of_le hij with hij | rfl
 ·have hs := List.pairwise_iff_getElem.1 hu (i - a) (j - a) (by omega) (by omega) (by omega)
  have g : ∀ k, (hk : k - a < u.length) → a ≤ k → d[k]! = u[k - a] := fun k hk h1 => by
   refine get_of (p := p ++ u.take (k - a)) (q := u.drop (k - a + 1) ++ q) ?_ (by simp; omega)
   rw [hd]
   conv => lhs; rw [← List.take_append_drop (k - a) u, List.drop_eq_getElem_cons hk]
   simp only [List.append_assoc, List.cons_append]
  rw [g i (by omega) hi, g j (by omega) (by omega)]; exact hs
 ·exact irrefl h _
theorem get_in {d : Array α} {p u q : List α} (hd : d.toList = p ++ u ++ q) (k : Nat) (hk : k < u.length) : d[p.length + k]! = u[k] := by
 refine get_of (p := p ++ u.take k) (q := u.drop (k + 1) ++ q) ?_ (by simp; omega)
 rw [hd]
 conv => lhs; rw [← List.take_append_drop k u, List.drop_eq_getElem_cons hk]
 simp only [List.append_assoc, List.cons_append]

/-! one element ahead of a sorted run -/
theorem mono_left (h : Swo lt) {d : Array α} {a m b : Nat} (hs : SortedIx lt m b d) : Mono (fun c => lt d[c]! d[a]!) m b := by
 intro c c' h1 h2 h3 hc
 show lt d[c']! d[a]! = true
 cases e : lt d[c']! d[a]!
 ·have := h.ntrans _ _ _ e (hs c' c h1 h2 h3)
  rw [show lt d[c]! d[a]! = true from hc] at this; cases this
 ·rfl
theorem one_left (h : Swo lt) {d : Array α} {p v q : List α} {x : α} (hd : d.toList = p ++ x :: (v ++ q)) (hv : Sorted lt v) {a m b i : Nat} (ha : a = p.length) (hm : m = a + 1) (hb : b = m + v.length) (hB : BS (fun c => lt d[c]! d[a]!) m b i i) :
  (upN d a (i - 1 - a)).toList = p ++ ssort lt (x :: v) ++ q := by
 have hx : d[a]! = x := get_of hd ha
 have hd2 : d.toList = (p ++ [x]) ++ v ++ q := by rw [hd]; simp
 have hg : ∀ k, (hk : k < v.length) → d[m + k]! = v[k] := fun k hk => by
  have := get_in hd2 k hk
  rw [show (p ++ [x]).length + k = m + k from by simp; omega] at this; exact this
 have hi1 := hB.l1
 have hi2 := hB.l3
 have e1 : ∀ y ∈ v.take (i - m), lt y x = true := fun y hy => by
  obtain ⟨k, hk, rfl⟩ := List.getElem_of_mem hy
  simp only [List.length_take] at hk
  have := hB.yes (m + k) (by omega) (by omega)
  rw [hg k (by omega), hx] at this
  simpa using this
 have e2 : ∀ y ∈ v.drop (i - m), lt y x = false := fun y hy => by
  obtain ⟨k, hk, rfl⟩ := List.getElem_of_mem hy
  simp only [List.length_drop] at hk
  have := hB.no (m + (i - m + k)) (by omega) (by omega)
  rw [hg _ (by omega), hx] at this
  simpa using this
 have hsplit : v = v.take (i - m) ++ v.drop (i - m) := (List.take_append_drop _ _).symm
 have hl : (v.take (i - m)).length = i - m := by simp; omega
 generalize v.take (i - m) = v1 at *
 generalize v.drop (i - m) = v2 at *
 subst hsplit
 have hu := upN_split (d := d) (x := x) (p := p) (v := v1) (q := v2 ++ q) (by rw [hd]; simp) (a := a) (n := i - 1 - a) ha (by omega)
 rw [hu]
 have hp := List.pairwise_append.1 hv
 have : v1 ++ x :: v2 = ssort lt (x :: (v1 ++ v2)) := by
  apply ssort_eq h
  ·have := (Sw.over (lt := lt) x v1 e1).ctx [] v2
   simpa using this
  ·refine List.pairwise_append.2 ⟨hp.1, List.pairwise_cons.2 ⟨e2, hp.2.1⟩, fun y hy z hz => ?_⟩
   rcases List.mem_cons.1 hz with e | hz
   ·rw [e]; exact h.asymm _ _ (e1 y hy)
   ·exact hp.2.2 y hy z hz
 rw [← this]; simp
/-! one element behind a sorted run -/
theorem mono_right (h : Swo lt) {d : Array α} {a m : Nat} (hs : SortedIx lt a m d) : Mono (fun c => !lt d[m]! d[c]!) a m := by
 intro c c' h1 h2 h3 hc
 have hc' : lt d[m]! d[c]! = false := by simpa using hc
 show (!lt d[m]! d[c']!) = true
 rw [h.ntrans _ _ _ (hs c' c h1 h2 h3) hc']; rfl
theorem one_right (h : Swo lt) {d : Array α} {p u q : List α} {x : α} (hd : d.toList = p ++ u ++ x :: q) (hu : Sorted lt u) {a m i : Nat} (ha : a = p.length) (hm : m = a + u.length) (hB : BS (fun c => !lt d[m]! d[c]!) a m i i) :
  (dnN d m (m - i)).toList = p ++ ssort lt (u ++ [x]) ++ q := by
 have hx : d[m]! = x := get_of hd (by simp; omega)
 have hg : ∀ k, (hk : k < u.length) → d[a + k]! = u[k] := fun k hk => by
  have := get_in (q := x :: q) hd k hk
  rw [ha]; exact this
 have hi1 := hB.l1
 have hi2 := hB.l3
 have e1 : ∀ y ∈ u.take (i - a), lt x y = false := fun y hy => by
  obtain ⟨k, hk, rfl⟩ := List.getElem_of_mem hy
  simp only [List.length_take] at hk
  have := hB.yes (a + k) (by omega) (by omega)
  simp only [hg k (by omega), hx] at this
  simpa using this
 have e2 : ∀ y ∈ u.drop (i - a), lt x y = true := fun y hy => by
  obtain ⟨k, hk, rfl⟩ := List.getElem_of_mem hy
  simp only [List.length_drop] at hk
  have := hB.no (a + (i - a + k)) (by omega) (by omega)
  simp only [hg _ (show i - a + k < u.length by omega), hx] at this
  simpa using this
 have hsplit : u = u.take (i - a) ++ u.drop (i - a) := (List.take_append_drop _ _).symm
 have hl : (u.take (i - a)).length = i - a := by simp; omega
 have hl2 : (u.drop (i - a)).length = m - i := by simp; omega
 generalize u.take (i - a) = v1 at *
 generalize u.drop (i - a) = v2 at *
 subst hsplit
 have hdn := dnN_split (d := d) (x := x) (p := p ++ v1) (v := v2) (q := q) (by rw [hd]; simp) (m := m) (n := m - i) (by simp; omega) hl2.symm
 rw [hdn]
 have hp := List.pairwise_append.1 hu
 have : v1 ++ x :: v2 = ssort lt (v1 ++ v2 ++ [x]) := by
  apply ssort_eq h
  ·have := (Sw.blocks (lt := lt) v2 [x] (fun a ha b hb => by simp at hb; subst hb; exact e2 a ha)).ctx v1 []
   simpa using this
  ·refine List.pairwise_append.2 ⟨hp.1, List.pairwise_cons.2 ⟨fun y hy => h.asymm _ _ (e2 y hy), hp.2.1⟩, fun y hy z hz => ?_⟩
   rcases List.mem_cons.1 hz with e | hz
   ·rw [e]; exact e1 y hy
   ·exact hp.2.2 y hy z hz
 rw [← this]; simp
/-! the general cut -/
theorem mono_sym (h : Swo lt) {d : Array α} {a m b n lo hi : Nat} (hs1 : SortedIx lt a m d) (hs2 : SortedIx lt m b d) (h1 : a ≤ lo) (h2 : hi ≤ m) (h3 : n - hi ≥ m) (h4 : n - 1 - lo < b) (h5 : hi ≤ n) : Mono (fun c => !lt d[n - 1 - c]! d[c]!) lo hi := by
 intro c c' k1 k2 k3 hc
 have hc' : lt d[n - 1 - c]! d[c]! = false := by simpa using hc
 show (!lt d[n - 1 - c']! d[c']!) = true
 have e1 : lt d[c]! d[c']! = false := hs1 c' c (by omega) k2 (by omega)
 have e2 : lt d[n - 1 - c']! d[n - 1 - c]! = false := hs2 (n - 1 - c) (n - 1 - c') (by omega) (by omega) (by omega)
 rw [h.ntrans _ _ _ (h.ntrans _ _ _ e1 hc') e2]; rfl
theorem sym_cut (h : Swo lt) {d : Array α} {p u v q : List α} (hd : d.toList = p ++ u ++ v ++ q) (hu : Sorted lt u) (hv : Sorted lt v) {a m b mid n lo hi s : Nat} (ha : a = p.length) (hm : m = a + u.length) (hb : b = m + v.length)
  (hmid : mid = (a + b) / 2) (hn : n = mid + m) (hab : a < b) (hlo : (mid < m → lo = n - b ∧ hi = mid) ∧ (¬ mid < m → lo = a ∧ hi = m)) (hB : BS (fun c => !lt d[n - 1 - c]! d[c]!) lo hi s s) :
  ∃ l1 l2 r1 r2, u = l1 ++ l2 ∧ v = r1 ++ r2 ∧ a + l1.length = s ∧ m + r1.length = n - s ∧ ssort lt (u ++ v) = ssort lt (l1 ++ r1) ++ ssort lt (l2 ++ r2) := by
 have hs1 := hB.l1
 have hs3 := hB.l3
 have b1 : a ≤ s ∧ s ≤ m ∧ m ≤ n - s ∧ n - s ≤ b := by
  by_cases hc : mid < m
  ·obtain ⟨rfl, rfl⟩ := hlo.1 hc; omega
  ·obtain ⟨rfl, rfl⟩ := hlo.2 hc; omega
 have gu : ∀ k, (hk : k < u.length) → d[a + k]! = u[k] := fun k hk => by
  have := get_in (q := v ++ q) (by rw [hd]; simp : d.toList = p ++ u ++ (v ++ q)) k hk
  rw [ha]; exact this
 have gv : ∀ k, (hk : k < v.length) → d[m + k]! = v[k] := fun k hk => by
  have := get_in hd k hk
  rw [show (p ++ u).length + k = m + k from by simp; omega] at this; exact this
 refine ⟨u.take (s - a), u.drop (s - a), v.take (n - s - m), v.drop (n - s - m), (List.take_append_drop _ _).symm, (List.take_append_drop _ _).symm, by simp; omega, by simp; omega, ?_⟩
 have hsU : ∀ i j (hi : i < u.length) (hj : j < u.length), i ≤ j → lt u[j] u[i] = false := fun i j hi hj hij => by
  rcases Nat.lt_or_eq_of_le hij with hij | rfl
  ·exact List.pairwise_iff_getElem.1 hu i j hi hj hij
  ·exact irrefl h _
 have hsV : ∀ i j (hi : i < v.length) (hj : j < v.length), i ≤ j → lt v[j] v[i] = false := fun i j hi hj hij => by
  rcases Nat.lt_or_eq_of_le hij with hij | rfl
  ·exact List.pairwise_iff_getElem.1 hv i j hi hj hij
  ·exact irrefl h _
 have hpu : Sorted lt (u.take (s - a) ++ u.drop (s - a)) := by rw [List.take_append_drop]; exact hu
 have hpv : Sorted lt (v.take (n - s - m) ++ v.drop (n - s - m)) := by rw [List.take_append_drop]; exact hv
 have key := ssort_cut h (u.take (s - a)) (u.drop (s - a)) (v.take (n - s - m)) (v.drop (n - s - m)) ?_ (fun x hx y hy => (List.pairwise_append.1 hpu).2.2 x hx y hy) (fun x hx y hy => (List.pairwise_append.1 hpv).2.2 x hx y hy) ?_
 ·rw [List.take_append_drop, List.take_append_drop] at key; exact key
 · -- l2 over r1
  intro x hx y hy
  obtain ⟨k, hk, rfl⟩ := List.getElem_of_mem hx
  obtain ⟨j, hj, rfl⟩ := List.getElem_of_mem hy
  simp only [List.length_drop] at hk
  simp only [List.length_take] at hj
  simp only [List.getElem_drop, List.getElem_take]
  -- s < hi
  have hsh : s < hi := by
   by_cases hc : mid < m
   ·have := hlo.1 hc; omega
   ·have := hlo.2 hc; omega
  have hN := hB.no s (Nat.le_refl _) hsh
  have hN' : lt d[n - 1 - s]! d[s]! = true := by simpa using hN
  have e1 : d[s]! = u[s - a]'(by omega) := by rw [← gu (s - a) (by omega)]; congr 1; omega
  have e2 : d[n - 1 - s]! = v[n - 1 - s - m]'(by omega) := by rw [← gv (n - 1 - s - m) (by omega)]; congr 1; omega
  rw [e1, e2] at hN'
  cases e : lt v[j] u[s - a + k]
  ·have h1 := hsU (s - a) (s - a + k) (by omega) (by omega) (by omega)
   have h2 := hsV j (n - 1 - s - m) (by omega) (by omega) (by omega)
   have h3 := h.ntrans _ _ _ (h.ntrans _ _ _ h1 e) h2
   rw [hN'] at h3; cases h3
  ·rfl
 · -- l1 over r2
  intro x hx y hy
  obtain ⟨k, hk, rfl⟩ := List.getElem_of_mem hx
  obtain ⟨j, hj, rfl⟩ := List.getElem_of_mem hy
  simp only [List.length_take] at hk
  simp only [List.length_drop] at hj
  simp only [List.getElem_drop, List.getElem_take]
  have hsh : lo < s := by
   by_cases hc : mid < m
   ·have := hlo.1 hc; omega
   ·have := hlo.2 hc; omega
  have hN := hB.yes (s - 1) (by omega) (by omega)
  have hN' : lt d[n - 1 - (s - 1)]! d[s - 1]! = false := by simpa using hN
  have e1 : d[s - 1]! = u[s - 1 - a]'(by omega) := by rw [← gu (s - 1 - a) (by omega)]; congr 1; omega
  have e2 : d[n - 1 - (s - 1)]! = v[n - s - m]'(by omega) := by rw [← gv (n - s - m) (by omega)]; congr 1; omega
  rw [e1, e2] at hN'
  have h1 := hsU k (s - 1 - a) (by omega) (by omega) (by omega)
  have h2 := hsV (n - s - m) (n - s - m + j) (by omega) (by omega) (by omega)
  exact h.ntrans _ _ _ (h.ntrans _ _ _ h1 hN') h2

/-! insertion -/
theorem insInner_sw (lt : α → α → Bool) (p q x0 : List α) : ∀ (j : Nat) (d : Array α), j < p.length + x0.length → (∃ x, d.toList = p ++ x ++ q ∧ Sw lt x0 x) → ∃ x, (insInner lt p.length j d).toList = p ++ x ++ q ∧ Sw lt x0 x := by
 intro j
 induction j with
 | zero => intro d _ h; rw [insInner]; exact h
 | succ j ih =>
  intro d hj h
  rw [insInner]
  split
  ·rename_i hc
   simp only [Bool.and_eq_true, decide_eq_true_eq] at hc
   refine ih _ (by omega) ?_
   obtain ⟨x, hx, hs⟩ := h
   have hl : x.length = x0.length := hs.perm.length_eq.symm
   have k1 : j - p.length < x.length := by omega
   have k2 : j - p.length + 1 < x.length := by omega
   have e : x = x.take (j - p.length) ++ x[j - p.length] :: x[j - p.length + 1] :: x.drop (j - p.length + 2) := by
    conv => lhs; rw [← List.take_append_drop (j - p.length) x, List.drop_eq_getElem_cons k1, List.drop_eq_getElem_cons k2]
   have g1 : d[j]! = x[j - p.length] := by rw [← get_in hx (j - p.length) k1]; congr 1; omega
   have g2 : d[j + 1]! = x[j - p.length + 1] := by rw [← get_in hx (j - p.length + 1) k2]; congr 1; omega
   have hlt := hc.2
   rw [g1, g2] at hlt
   have hpl : (x.take (j - p.length)).length = j - p.length := by simp; omega
   generalize x.take (j - p.length) = xa at e hpl
   generalize x.drop (j - p.length + 2) = xb at e
   generalize x[j - p.length] = y at *
   generalize x[j - p.length + 1] = z at *
   subst e
   have hsw := swp_split' (d := d) (p := p ++ xa) (m := []) (q := xb ++ q) (x := y) (y := z) (by rw [hx]; simp) (i := j) (j := j + 1) (by simp; omega) (by simp; omega)
   exact ⟨xa ++ z :: y :: xb, by rw [hsw]; simp, .step xa y z xb hs hlt⟩
  ·exact h
theorem insOuter_sw (lt : α → α → Bool) (p q x0 : List α) (b : Nat) (hb : b = p.length + x0.length) : ∀ (k i : Nat) (d : Array α), b - i ≤ k → (∃ x, d.toList = p ++ x ++ q ∧ Sw lt x0 x) → ∃ x, (insOuter lt p.length b i d).toList = p ++ x ++ q ∧ Sw lt x0 x := by
 intro k
 induction k with
 | zero => intro i d hk h; rw [insOuter, if_neg (by omega)]; exact h
 | succ k ih =>
  intro i d hk h
  rw [insOuter]
  split
  ·exact ih _ _ (by omega) (insInner_sw lt p q x0 i d (by omega) h)
  ·exact h
theorem insertion_is (h : Swo lt) {d : Array α} {p x q : List α} (hd : d.toList = p ++ x ++ q) {a b : Nat} (ha : a = p.length) (hb : b = p.length + x.length) : (insertionSort lt d a b).toList = p ++ ssort lt x ++ q := by
 subst ha
 obtain ⟨y, hy, hs⟩ := insOuter_sw lt p q x b hb b (p.length + 1) d (by omega) ⟨x, hd, .refl⟩
 have hsz : b ≤ d.size := by rw [← Array.length_toList, hd]; simp; omega
 have hso := (insertionSort_holds (lt := lt) (swo_of h) d p.length b (by omega) hsz).2
 have hl : y.length = x.length := hs.perm.length_eq.symm
 have : y = ssort lt x := by
  apply ssort_eq h hs
  refine List.pairwise_iff_getElem.2 fun i j hi hj hij => ?_
  have := hso (p.length + i) (p.length + j) (by omega) (by omega) (by omega)
  rw [show insertionSort lt d p.length b = insOuter lt p.length b (p.length + 1) d from rfl, get_in hy i hi, get_in hy j hj] at this
  exact this
 rw [← this]; exact hy
end Go.Proofs.YteailgjiifdgcaaGreatDoor.StbA

/- Plain facts: the form of a set of spans, of texts; the order by bounds below. No condition. -/
namespace Go.Proofs.YteailgjiifdgcaaGreatDoor
open Go.Lib VerN SortM

def cmpLoI (a b : List UInt8) : Int := if a = b then 0 else if a = [] then -1 else if b = [] then 1 else compareL a b
theorem cmpLoI_lt (a b : List UInt8) : decide (cmpLoI a b < 0) = ltLo a b := by
 have hn := row_compare.neg a a
 have h0 : ¬ compareL a a < 0 := by omega
 unfold cmpLoI ltLo
 by_cases h : a = b
 ·subst h
  by_cases h1 : a = []
  ·simp [h1]
  ·simp [h1, h0]
 ·by_cases h1 : a = []
  ·subst h1
   have h2 : b ≠ [] := fun e => h e.symm
   simp [h, h2]
  ·by_cases h2 : b = []
   ·subst h2; simp [h1]
   ·simp [h, h1, h2]
theorem ltLo_asymm {a b : List UInt8} (h : ltLo a b = true) : ltLo b a = false := by
 rw [ltLo_no]
 unfold ltLo at h
 simp only [Bool.and_eq_true, Bool.or_eq_true, decide_eq_true_eq] at h
 obtain ⟨h1, h2 | h2⟩ := h
 ·exact .inl h2
 ·refine .inr ⟨h1, ?_⟩
  unfold le; omega
theorem loLe_trans {a b c : List UInt8} (h1 : loLe a b) (h2 : loLe b c) : loLe a c := by
 rcases h1 with h | ⟨k1, h⟩
 ·exact .inl h
 ·rcases h2 with m | ⟨m1, m⟩
  ·exact absurd m k1
  ·exact .inr ⟨m1, le_trans h m⟩

abbrev BSp := ByteArray × ByteArray
def dS (s : BSp) : Sp := (s.1.data.toList, s.2.data.toList)
abbrev Tp := { s : BSp // s.1.size ≤ 9000 ∧ s.2.size ≤ 9000 }
instance : Inhabited Tp := ⟨⟨(⟨#[]⟩, ⟨#[]⟩), by decide⟩⟩
def cfSp (x y : Tp) : Int := cmpLoI x.1.1.data.toList y.1.1.data.toList
theorem ltSp (x y : Tp) : Go.Proofs.ltOf cfSp x y = ltLo (dS x.1).1 (dS y.1).1 := cmpLoI_lt _ _
theorem swoSp : Swo (Go.Proofs.ltOf cfSp) where
 asymm a b h := by rw [ltSp] at *; exact ltLo_asymm h
 ntrans a b c h1 h2 := by
  rw [ltSp, ltLo_no] at *
  exact loLe_trans h1 h2
def sortSp (l : List Tp) : List Tp := ssort (Go.Proofs.ltOf cfSp) l
theorem sortSp_perm (l : List Tp) : (sortSp l).Perm l := (ssort_sw swoSp l).perm.symm
def addB (out : List BSp) (x : BSp) : List BSp := match out.getLast? with
 | some z => if meetOk (dS z) (dS x) = true then out.dropLast ++ [jnV z.1 z.2 x.1 x.2] else out ++ [x]
 | none => [x]
def mergeB (l : List BSp) : List BSp := l.foldl addB []
theorem jn_dS (z x : BSp) : dS (jnV z.1 z.2 x.1 x.2) = joinS (dS z) (dS x) := jnV_data _ _ _ _
theorem addB_nil (x : BSp) : addB [] x = [x] := rfl
theorem addB_snoc (O : List BSp) (z x : BSp) : addB (O ++ [z]) x = if meetOk (dS z) (dS x) = true then O ++ [jnV z.1 z.2 x.1 x.2] else O ++ [z] ++ [x] := by
 unfold addB
 simp
theorem mergeB_len : ∀ (r O : List BSp), (r.foldl addB O).length ≤ O.length + r.length
 | [], O => by simp
 | x :: r, O => by
  have h := mergeB_len r (addB O x)
  have : (addB O x).length ≤ O.length + 1 := by
   rcases List.eq_nil_or_concat O with rfl | ⟨Q, z, rfl⟩
   ·simp [addB_nil]
   ·rw [List.concat_eq_append, addB_snoc]
    split <;> simp
  rw [List.foldl_cons, List.length_cons]
  omega
def formB (l : List Tp) : List BSp := mergeB ((sortSp l).map (·.1))
def allMay (l : List BSp) : Bool := l.all fun s => mayS (dS s)
theorem form_len (l : List Tp) : (formB l).length ≤ l.length := by
 have h := mergeB_len ((sortSp l).map (·.1)) []
 have h2 := (sortSp_perm l).length_eq
 unfold formB mergeB
 simp only [List.length_map, List.length_nil] at h
 omega
end Go.Proofs.YteailgjiifdgcaaGreatDoor

/- Laws for an append of what is read. No condition. -/
namespace Go.Proofs.YteailgjiifdgcaaGreatDoor
open Go.RowKit

theorem run_append_from {P : Program} {t e : TypeId} {z : Value} {size bytes : Nat} (E : Elem P t e z size bytes) (w : World) (base : Nat) (ty : TypeId)
  (v : Value) (n : Nat) (xs : List Value) (hown : w.ownsRow base e size v n xs)
  (ao : Option Addr) (m c : Nat) (news : List Value) (hl : news.length = m * size) (hnews : ∀ j u, news[j]? = some u → ∃ b off, ao = some ⟨b, off, none⟩ ∧ w.cell? ⟨b, off + j, none⟩ = some u) (h1 : ∀ u ∈ news, u.oneCell' = true)
  (h63 : n + m ≤ maxLen) (hbytes : (n + m) * bytes ≤ 140737488355328) (hbase : base ≤ w.heap.size) :
  ∃ v' w', (Builtin.append_ #[t, t] ty #[v, .slice ao m c]).run P w = .ok v' w' ∧ w'.ownsRow base e size v' (n + m) (xs ++ news) ∧ w.grownBy w' v.ownBlock ∧ Moved w v v' := by
 obtain ⟨i, hi, hz, hsz, hby⟩ := info_parts E.info
 cases ao with
 | some a =>
  obtain ⟨v', w', hr, h2, h3, h4⟩ := run_append_where (P := P) w base t ty e i z size bytes E.slice hi hz hsz hby E.zero E.pos v n xs hown a m c news hl (by
   intro j u hu
   obtain ⟨b, off, e1, e2⟩ := hnews j u hu
   cases e1
   rw [Addr.add_lit]
   exact e2) h1 h63 hbytes hbase
  refine ⟨v', w', hr, h2, h3, fun k hk => ?_⟩
  rcases h4 with h4 | h4
  ·exact .inl (by rw [← h4]; exact hk)
  ·right; rw [h4] at hk; simp at hk; omega
 | none =>
  have hn : news = [] := by
   cases news with
   | nil => rfl
   | cons x r => obtain ⟨b, off, e1, _⟩ := hnews 0 x rfl; cases e1
  subst hn
  have hm : m = 0 := by
   have hp := E.pos
   rcases Nat.eq_zero_or_pos m with h | h
   ·exact h
   ·have := Nat.mul_pos h hp; simp at hl; omega
  subst hm
  refine ⟨v, w, ?_, by simpa using hown, World.grownBy.refl _ _, fun k hk => .inl hk⟩
  rcases hown.2 with ⟨rfl, rfl⟩ | ⟨g, cap, cur, rfl, _, _, hnc, _⟩
  ·simp [Builtin.append_, run_underlying E.slice, sizeOf, typeInfo, hi, Builtin.lenOf, Builtin.firstCells]
  ·simp [Builtin.append_, run_underlying E.slice, sizeOf, typeInfo, hi, Builtin.lenOf, Builtin.firstCells, hnc, storeCells]

theorem wp_append_from {P : Program} {t e : TypeId} {z : Value} {size bytes : Nat} (E : Elem P t e z size bytes) {w : World} {o : Oper} {a : Act} {K : Act → World → Prop} {Q : Exit → Act → World → Prop}
  (s x : Operand) (ho : o.op = .call { callee := .builtin .append, args := #[s, x], argTypes := #[t, t] })
  (base : Nat) (v : Value) (n : Nat) (xs : List Value) (hs : a.eval s = v) (hown : w.ownsRow base e size v n xs)
  (ao : Option Addr) (m c : Nat) (news : List Value) (hx : a.eval x = .slice ao m c) (hl : news.length = m * size) (hnews : ∀ j u, news[j]? = some u → ∃ b off, ao = some ⟨b, off, none⟩ ∧ w.cell? ⟨b, off + j, none⟩ = some u) (h1 : ∀ u ∈ news, u.oneCell' = true)
  (hb : (n + m) * bytes ≤ 140737488355328) (hb1 : n + m ≤ maxLen) (hbase : base ≤ w.heap.size)
  (h : ∀ v' w', w'.ownsRow base e size v' (n + m) (xs ++ news) → w.grownBy w' v.ownBlock → Moved w v v' → K (a.put o.dst v') w') :
  o.wp P a w K Q := by
 obtain ⟨v', w', hr, h2, h3, h4⟩ := run_append_from E w base o.type v n xs hown ao m c news hl hnews h1 hb1 hb hbase
 unfold Oper.wp execOp
 simp only [ho, resolve, invoke, builtin, Sem.run_bind, Sem.run_pure, Result.andThen_ok, List.map_toArray, List.map_cons, List.map_nil, hs, hx, hr]
 exact h v' w' h2 h3 h4
theorem wpList_append_from {P : Program} {t e : TypeId} {z : Value} {size bytes : Nat} (E : Elem P t e z size bytes) {w : World} {ops : Array Oper} {rest : List Oper} {o : Oper} {a : Act} {Q : Exit → Act → World → Prop}
  (hgd : o.guard = none) (s x : Operand) (ho : o.op = .call { callee := .builtin .append, args := #[s, x], argTypes := #[t, t] })
  (base : Nat) (v : Value) (n : Nat) (xs : List Value) (hs : a.eval s = v) (hown : w.ownsRow base e size v n xs)
  (ao : Option Addr) (m c : Nat) (news : List Value) (hx : a.eval x = .slice ao m c) (hl : news.length = m * size) (hnews : ∀ j u, news[j]? = some u → ∃ b off, ao = some ⟨b, off, none⟩ ∧ w.cell? ⟨b, off + j, none⟩ = some u) (h1 : ∀ u ∈ news, u.oneCell' = true)
  (hb : (n + m) * bytes ≤ 140737488355328) (hb1 : n + m ≤ maxLen) (hbase : base ≤ w.heap.size)
  (h : ∀ v' w', w'.ownsRow base e size v' (n + m) (xs ++ news) → w.grownBy w' v.ownBlock → Moved w v v' → wpList P ops Q rest (a.put o.dst v') w') :
  wpList P ops Q (o :: rest) a w :=
 wpList_plain hgd fun _ hK => wp_append_from E s x ho base v n xs hs hown ao m c news hx hl hnews h1 hb hb1 hbase fun v' w' h2 h3 h4 => hK _ _ (h v' w' h2 h3 h4)

end Go.Proofs.YteailgjiifdgcaaGreatDoor

/- Rows of elements of some cells each: an element is put, two are exchanged. No condition. -/
namespace Go.Proofs.YteailgjiifdgcaaGreatDoor
open Go.RowKit
open SortM

def wr (xs : List Value) : Nat → List Value → List Value
 | _, [] => xs
 | o, v :: vs => wr (xs.set o v) (o + 1) vs
theorem flat_get {α : Type} (f : α → List Value) (k : Nat) (hk : ∀ x, (f x).length = k) (l : List α) (i : Nat) (h : i < l.length) (j : Nat) (hj : j < k) : (l.flatMap f)[i * k + j]? = (f l[i])[j]? := by
 induction l generalizing i with
 | nil => simp at h
 | cons a l ih =>
  rw [List.flatMap_cons]
  match i, h with
  | 0, _ =>
   rw [List.getElem?_append_left (by rw [hk]; omega)]
   simp
  | i + 1, h =>
   have hge : (f a).length ≤ (i + 1) * k + j := by rw [hk, Nat.succ_mul]; omega
   rw [List.getElem?_append_right hge, hk, show (i + 1) * k + j - k = i * k + j by rw [Nat.succ_mul]; omega]
   exact ih i (by simpa using h)
end Go.Proofs.YteailgjiifdgcaaGreatDoor

/- The walk of slices.Clone at spans, and rows of spans that a call owns. Condition: few spans. -/
namespace Go.Proofs.YteailgjiifdgcaaGreatDoor
open Go.RowKit Go.Shelf

def spCells (x : BSp) : List Value := [.string x.1, .string x.2]
theorem elem_spn : Elem Tryz.prog 23 34 (.agg #[.string ⟨#[]⟩, .string ⟨#[]⟩]) 2 32 := ⟨Tryz.underlying23, by kernel_rfl, rfl, by decide⟩
def RSpn : Rd BSp := fun _ cs x => cs = [.string x.1, .string x.2] ∧ x.1.size ≤ maxLen ∧ x.2.size ≤ maxLen
theorem stays_spn : Stays RSpn := fun _ _ _ _ h _ => h
abbrev RSps : Rd (List BSp) := RSlice 2 RSpn
theorem spCells_len (x : BSp) : (spCells x).length = 2 := rfl
theorem spsFlat_len : ∀ (l : List BSp), (l.flatMap spCells).length = l.length * 2
 | [] => rfl
 | x :: l => by rw [List.flatMap_cons, List.length_append, spsFlat_len l, spCells_len, List.length_cons]; omega
theorem sps_one (l : List BSp) : ∀ u ∈ l.flatMap spCells, u.oneCell' = true := by
 intro u hu
 obtain ⟨x, _, h⟩ := List.mem_flatMap.1 hu
 simp [spCells] at h
 rcases h with rfl | rfl <;> rfl
theorem sps_flat (f : List BSp) (i : Nat) (h : i < f.length) (j : Nat) (hj : j < 2) : (f.flatMap spCells)[i * 2 + j]? = (spCells f[i])[j]? := flat_get spCells 2 spCells_len f i h j hj
theorem sps_news {w : World} {o : Option Addr} {n c : Nat} {f : List BSp} (h : RSps w [.slice o n c] f) : ∀ j u, (f.flatMap spCells)[j]? = some u → ∃ b off, o = some ⟨b, off, none⟩ ∧ w.cell? ⟨b, off + j, none⟩ = some u := by
 obtain ⟨a, cap, hv, _, _, hel⟩ := h
 simp only [List.cons.injEq, and_true, Value.slice.injEq] at hv
 obtain ⟨rfl, _, _⟩ := hv
 intro j u hu
 have hj := (List.getElem?_eq_some_iff.1 hu).1
 rw [spsFlat_len] at hj
 have hi : j / 2 < f.length := by omega
 have e := sps_flat f (j / 2) hi (j % 2) (by omega)
 have ej : j / 2 * 2 + j % 2 = j := by omega
 rw [ej, hu] at e
 obtain ⟨b, off, ecs, h1, h2, h3, h4, _⟩ := hel (j / 2) f[j / 2] (List.getElem?_eq_getElem hi)
 subst h4
 refine ⟨b, off, h1, ?_⟩
 have := h3 (j % 2) u e.symm
 rwa [Nat.add_assoc, ej] at this
theorem sps_shape {w : World} {v : Value} {f : List BSp} (h : RSps w [v] f) : ∃ a c, v = .slice a f.length c := by
 obtain ⟨a, cap, hv, _⟩ := h
 simp only [List.cons.injEq, and_true] at hv
 exact ⟨a, cap, hv⟩
theorem lit_sps {w : World} {B : Nat} (h : B ≤ w.heap.size) : (w.alloc (.cells #[] 34)).ownsRow B 34 2 (.slice (some ⟨w.heap.size, 0, none⟩) 0 0) 0 [] := World.ownsRow_lit (base := B) (e := 34) (size := 2) w #[] 0 h (by decide) rfl
def CloneSpPost (w : World) (n : Nat) (N : List Value) (e : Ending) (w' : World) : Prop := ∃ o, e = .returned o ∧ w'.ownsRow w.heap.size 34 2 o n N ∧ Below w.heap.size w w'
set_option maxRecDepth 10000 in
theorem cloneSpn_any {w : World} {v : Value} {l : List BSp} (h : RSps w [v] l) (hl : l.length ≤ 1000000) : Calls Tryz.prog 105 #[v] w (CloneSpPost w l.length (l.flatMap spCells)) := by
 obtain ⟨a, c, rfl⟩ := sps_shape h
 have hN : ∀ j u, (l.flatMap spCells)[j]? = some u → ∃ b off, a = some ⟨b, off, none⟩ ∧ (w.alloc (.cells #[] 34)).cell? ⟨b, off + j, none⟩ = some u := fun j u hu => by
  obtain ⟨b, off, h1, h2⟩ := sps_news h j u hu
  exact ⟨b, off, h1, cell_later (below_alloc1 _ _) h2⟩
 have h1 := sps_one l
 have hfl := spsFlat_len l
 have hlit := lit_sps (w := w) (B := w.heap.size) (Nat.le_refl _)
 obtain ⟨n, hn⟩ : ∃ n, n = l.length := ⟨_, rfl⟩
 obtain ⟨N, hNN⟩ : ∃ N, N = l.flatMap spCells := ⟨_, rfl⟩
 rw [← hNN] at hN h1 hfl
 rw [← hn] at hfl hl h ⊢
 rw [← hNN]
 cases a with
 | none =>
  have hl0 : l = [] := by
   cases l with
   | nil => rfl
   | cons x r =>
    obtain ⟨_, _, hv, _, _, hel⟩ := h
    simp only [List.cons.injEq, and_true, Value.slice.injEq] at hv
    obtain ⟨rfl, _, _⟩ := hv
    obtain ⟨b, off, ecs, h1, _⟩ := hel 0 x rfl
    cases h1
  have hn0 : n = 0 := by rw [hn, hl0]; rfl
  have hN0 : N = [] := by rw [hNN, hl0]; rfl
  subst hn0
  have hnil : ∀ W, (binOp .eql 23 (.slice none 0 c) (.slice none 0 0)).run Tryz.prog W = .ok (.bool true) W := fun W => Lib.run_eql_slice_nil W 23 34 none 0 c 0 0 Tryz.underlying23
  obtain ⟨Hh, HN, H1, Hfl, Hlit, Hn, HNN, Hl0, HN0⟩ := hd9 h hN h1 hfl hlit hn hNN hl0 hN0; clear h hN h1 hfl hlit hn hNN hl0 hN0
  go_enter Tryz.func105, Tryz.ntmps105
  go_wp2_with fail
  go_ret
  exact ⟨_, rfl, by rw [HN0.out]; exact World.ownsRow_nil _ _ _ _, Below.refl _ _⟩
 | some p =>
  have hnil : ∀ W, (binOp .eql 23 (.slice (some p) n c) (.slice none 0 0)).run Tryz.prog W = .ok (.bool false) W := fun W => Lib.run_eql_slice_nil W 23 34 (some p) n c 0 0 Tryz.underlying23
  obtain ⟨Hh, HN, H1, Hfl, Hlit, Hn, HNN⟩ := hd7 h hN h1 hfl hlit hn hNN; clear h hN h1 hfl hlit hn hNN
  go_enter Tryz.func105, Tryz.ntmps105
  go_wp2_with (at_builtin; (refine wpList_append_from elem_spn rfl (.tmp 5) (.tmp 6) rfl w.heap.size (.slice (some ⟨w.heap.size, 0, none⟩) 0 0) 0 [] rfl Hlit.out (some p) n c N rfl Hfl.out HN.out H1.out (by omega) (by unfold maxLen; omega) (by simp) ?_; intro v1 w1 hown1 hg1 hm1; obtain ⟨oa, oc, rfl⟩ := own_shape hown1; generalize hN7 : 0 + n = N7 at hown1 ⊢; obtain ⟨Hown1, Hg1, HN7⟩ := hd3 hown1 hg1 hN7; clear hown1 hg1 hm1 hN7))
  go_ret
  have hb1 : Below w.heap.size w w1 := bel_own (below_alloc1 w _) Hlit.out (Nat.le_refl _) Hg1.out (by simp)
  refine ⟨_, rfl, ?_, hb1⟩
  have h9 := Hown1.out
  have e : N7 = n := by have := HN7.out; omega
  rw [List.nil_append] at h9
  rw [e] at h9 ⊢
  exact h9
theorem sps_reads {w : World} {B : Nat} {v : Value} {f : List BSp} (hw : ∀ x ∈ f, x.1.size ≤ maxLen ∧ x.2.size ≤ maxLen) (h : w.ownsRow B 34 2 v f.length (f.flatMap spCells)) : RSps w [v] f := by
 obtain ⟨a, cap, rfl, h1, h2, h3⟩ := Sl.of_owns h
 refine ⟨a, cap, rfl, h1, h2, fun i x hi => ?_⟩
 have hil := (List.getElem?_eq_some_iff.1 hi).1
 have hx := (List.getElem?_eq_some_iff.1 hi).2
 have hc : ∀ c, c < 2 → ∀ u, (spCells x)[c]? = some u → ∃ b off, a = some ⟨b, off, none⟩ ∧ w.cell? ⟨b, off + (i * 2 + c), none⟩ = some u := fun c hc u hu => h3 (i * 2 + c) u (by rw [sps_flat f i hil c hc, hx]; exact hu)
 obtain ⟨b, off, ha, h4⟩ := hc 0 (by omega) _ rfl
 obtain ⟨b', off', ha', h5⟩ := hc 1 (by omega) _ rfl
 rw [ha] at ha'
 cases ha'
 refine ⟨b, off, spCells x, ha, rfl, fun j u hu => ?_, rfl, (hw x (List.mem_of_getElem? hi)).1, (hw x (List.mem_of_getElem? hi)).2⟩
 match j, hu with
 | 0, hu => simp [spCells] at hu; subst hu; rw [← Nat.add_assoc] at h4; exact h4
 | 1, hu => simp [spCells] at hu; subst hu; rw [← Nat.add_assoc] at h5; exact h5
theorem sps_open {w : World} {v : Value} {l : List BSp} (h : RSps w [v] l) : ∃ a cap, v = .slice a l.length cap ∧ l.length ≤ 9223372036854775807 ∧ ∀ i x, l[i]? = some x → ∃ b off, a = some ⟨b, off, none⟩ ∧ w.cell? ⟨b, off + i * 2, none⟩ = some (.string x.1) ∧ w.cell? ⟨b, off + i * 2 + 1, none⟩ = some (.string x.2) ∧ x.1.size ≤ 9223372036854775807 ∧ x.2.size ≤ 9223372036854775807 := by
 obtain ⟨a, cap, hv, hcap, hmax, hel⟩ := h
 simp only [List.cons.injEq, and_true] at hv
 unfold maxLen at hmax
 refine ⟨a, cap, hv, by omega, fun i x hi => ?_⟩
 obtain ⟨b, off, ecs, h1, h2, h3, h4, h5, h6⟩ := hel i x hi
 subst h4
 unfold maxLen at h5 h6
 exact ⟨b, off, h1, by simpa using h3 0 _ rfl, by simpa using h3 1 _ rfl, by omega, by omega⟩
theorem sps_size {w : World} {v : Value} {l : List BSp} (h : RSps w [v] l) : ∀ x ∈ l, x.1.size ≤ maxLen ∧ x.2.size ≤ maxLen := by
 obtain ⟨a, cap, _, _, g⟩ := sps_open h
 intro x hx
 obtain ⟨i, hi, rfl⟩ := List.getElem_of_mem hx
 obtain ⟨b, off, _, _, _, h1, h2⟩ := g i _ (List.getElem?_eq_getElem hi)
 exact ⟨h1, h2⟩
set_option maxHeartbeats 1000000 in
theorem insertionSp_nil (cv : Value) (w : World) : Calls Tryz.prog 195 #[.slice none 0 0, .int .i64 0, .int .i64 0, cv] w fun e w' => e = .returned (.tuple #[]) ∧ w = w' := by
 go_enter Tryz.func195, Tryz.ntmps195
 go_wp2_with fail
 refine wp_loop_rounds 1 ?_
 rw [rounds_succ]
 go_wp2_with fail
 go_end0
 exact ⟨rfl, rfl⟩
set_option maxRecDepth 10000 in
set_option maxHeartbeats 1000000 in
theorem stableSp_nil (cv : Value) (w : World) : Calls Tryz.prog 163 #[.slice none 0 0, .int .i64 0, cv] w fun e w' => e = .returned (.tuple #[]) ∧ w = w' := by
 have h := insertionSp_nil cv
 have Hh := hd h; clear h
 go_enter Tryz.func163, Tryz.ntmps163
 go_wp2_with fail
 refine wp_loop_rounds 1 ?_
 rw [rounds_succ]
 go_wp2_with fail
 refine (Hh.out _).mono ?_
 rintro e w2 ⟨rfl, rfl⟩
 go_wp2_with fail
 refine wp_loop_rounds 1 ?_
 rw [rounds_succ]
 go_wp2_with fail
 go_end0
 exact ⟨rfl, rfl⟩
set_option maxRecDepth 10000 in
theorem sortStableSp_nil (cv : Value) (w : World) : Calls Tryz.prog 106 #[.slice none 0 0, cv] w fun e w' => e = .returned (.tuple #[]) ∧ w = w' := by
 have h := stableSp_nil cv
 have Hh := hd h; clear h
 go_enter Tryz.func106, Tryz.ntmps106
 go_wp2_with fail
 refine (Hh.out _).mono ?_
 rintro e w2 ⟨rfl, rfl⟩
 go_wp2_with fail
 go_end0
 exact ⟨rfl, rfl⟩
end Go.Proofs.YteailgjiifdgcaaGreatDoor

/- Settings: their cells, how rows of them read. No condition. -/
namespace Go.Proofs.YteailgjiifdgcaaGreatDoor
open Go.RowKit Go.Shelf

abbrev Setg := ByteArray × ByteArray
def setCells (x : Setg) : List Value := [.string x.1, .string x.2]
theorem elem_set : Elem Tryz.prog 49 109 (.agg #[.string ⟨#[]⟩, .string ⟨#[]⟩]) 2 32 := ⟨Tryz.underlying49, by kernel_rfl, rfl, by decide⟩
def RSet : Rd Setg := fun _ cs x => cs = [.string x.1, .string x.2] ∧ x.1.size ≤ maxLen ∧ x.2.size ≤ maxLen
theorem stays_set : Stays RSet := fun _ _ _ _ h _ => h
abbrev RSets : Rd (List Setg) := RSlice 2 RSet
theorem setCells_len (x : Setg) : (setCells x).length = 2 := rfl
theorem SortM_flat (f : List Setg) (i : Nat) (h : i < f.length) (j : Nat) (hj : j < 2) : (f.flatMap setCells)[i * 2 + j]? = (setCells f[i])[j]? := flat_get setCells 2 setCells_len f i h j hj
theorem sets_shape {w : World} {v : Value} {f : List Setg} (h : RSets w [v] f) : ∃ a c, v = .slice a f.length c := by
 obtain ⟨a, cap, hv, _⟩ := h
 simp only [List.cons.injEq, and_true] at hv
 exact ⟨a, cap, hv⟩
theorem sets_reads {w : World} {B : Nat} {v : Value} {f : List Setg} (hw : ∀ x ∈ f, x.1.size ≤ maxLen ∧ x.2.size ≤ maxLen) (h : w.ownsRow B 109 2 v f.length (f.flatMap setCells)) : RSets w [v] f := by
 obtain ⟨a, cap, rfl, h1, h2, h3⟩ := Sl.of_owns h
 refine ⟨a, cap, rfl, h1, h2, fun i x hi => ?_⟩
 have hil := (List.getElem?_eq_some_iff.1 hi).1
 have hx := (List.getElem?_eq_some_iff.1 hi).2
 have hc : ∀ c, c < 2 → ∀ u, (setCells x)[c]? = some u → ∃ b off, a = some ⟨b, off, none⟩ ∧ w.cell? ⟨b, off + (i * 2 + c), none⟩ = some u := fun c hc u hu => h3 (i * 2 + c) u (by rw [SortM_flat f i hil c hc, hx]; exact hu)
 obtain ⟨b, off, ha, h4⟩ := hc 0 (by omega) _ rfl
 obtain ⟨b', off', ha', h5⟩ := hc 1 (by omega) _ rfl
 rw [ha] at ha'
 cases ha'
 refine ⟨b, off, setCells x, ha, rfl, fun j u hu => ?_, rfl, (hw x (List.mem_of_getElem? hi)).1, (hw x (List.mem_of_getElem? hi)).2⟩
 match j, hu with
 | 0, hu => simp [setCells] at hu; subst hu; rw [← Nat.add_assoc] at h4; exact h4
 | 1, hu => simp [setCells] at hu; subst hu; rw [← Nat.add_assoc] at h5; exact h5
theorem sets_open {w : World} {v : Value} {l : List Setg} (h : RSets w [v] l) : ∃ a cap, v = .slice a l.length cap ∧ l.length ≤ 9223372036854775807 ∧ ∀ i x, l[i]? = some x → ∃ b off, a = some ⟨b, off, none⟩ ∧ w.cell? ⟨b, off + i * 2, none⟩ = some (.string x.1) ∧ w.cell? ⟨b, off + i * 2 + 1, none⟩ = some (.string x.2) ∧ x.1.size ≤ 9223372036854775807 ∧ x.2.size ≤ 9223372036854775807 := by
 obtain ⟨a, cap, hv, hcap, hmax, hel⟩ := h
 simp only [List.cons.injEq, and_true] at hv
 unfold maxLen at hmax
 refine ⟨a, cap, hv, by omega, fun i x hi => ?_⟩
 obtain ⟨b, off, ecs, h1, h2, h3, h4, h5, h6⟩ := hel i x hi
 subst h4
 unfold maxLen at h5 h6
 exact ⟨b, off, h1, by simpa using h3 0 _ rfl, by simpa using h3 1 _ rfl, by omega, by omega⟩
end Go.Proofs.YteailgjiifdgcaaGreatDoor

/- Plain facts: the document's form of a set of spans (two that meet put together, until none do; then the row) is the program's. No condition. -/
namespace Go.Proofs.YteailgjiifdgcaaGreatDoor
open Go.Lib VerN SortM

def jnT (a b : Tp) : Tp := ⟨jnV a.1.1 a.1.2 b.1.1 b.1.2, by
 have ha := a.2
 have hb := b.2
 have h0 : (ByteArray.mk #[]).size ≤ 9000 := by decide
 unfold jnV
 split
 ·constructor
  ·show (if _ then _ else _ : ByteArray).size ≤ 9000
   split
   ·exact soonerS_size ha.1 hb.1
   ·exact h0
  ·show (if _ then _ else _ : ByteArray).size ≤ 9000
   split
   ·exact laterS_size ha.2 hb.2
   ·exact h0
 ·exact ⟨h0, h0⟩⟩
def mtT (a b : Tp) : Bool := meetOk (dS a.1) (dS b.1)
def mayT (l : List Tp) : Prop := ∀ s ∈ l, mayS (dS s.1) = true
def covT (l : List Tp) (p : Pt) : Prop := cov (l.map fun x => dS x.1) p
def MStep (l l' : List Tp) : Prop := ∃ a b r, l.Perm (a :: b :: r) ∧ mtT a b = true ∧ l' = jnT a b :: r
theorem covT_cons (a : Tp) (l : List Tp) (p : Pt) : covT (a :: l) p ↔ covS (dS a.1) p ∨ covT l p := by
 unfold covT cov
 simp only [List.map_cons, List.mem_cons, or_and_right, exists_or, exists_eq_left]
theorem covT_perm {a b : List Tp} (h : a.Perm b) (p : Pt) : covT a p ↔ covT b p := cov_perm (h.map _) p
theorem step_facts {l l' : List Tp} (hm : mayT l) (h : MStep l l') : mayT l' ∧ (∀ p, covT l' p ↔ covT l p) ∧ l'.length + 1 = l.length := by
 obtain ⟨a, b, r, hp, hab, rfl⟩ := h
 have ha : mayS (dS a.1) = true := hm a (hp.mem_iff.2 (by simp))
 have hb : mayS (dS b.1) = true := hm b (hp.mem_iff.2 (by simp))
 have e : dS (jnT a b).1 = joinS (dS a.1) (dS b.1) := jn_dS a.1 b.1
 refine ⟨fun s hs => ?_, fun p => ?_, ?_⟩
 ·rcases List.mem_cons.1 hs with rfl | hs
  ·rw [e]; exact join_may ha hb
  ·exact hm s (hp.mem_iff.2 (by simp [hs]))
 ·rw [covT_perm hp, covT_cons, covT_cons, covT_cons, e, join_cov ha hb hab, or_assoc]
 ·have := hp.length_eq
  simp only [List.length_cons] at *
  omega
end Go.Proofs.YteailgjiifdgcaaGreatDoor

/- The walk of cooperref03.join. Condition: texts of at most a million bytes; spans that may be. -/
namespace Go.Proofs.YteailgjiifdgcaaGreatDoor
open Go.RowKit Go.Lib VerN

set_option linter.unusedSimpArgs false
end Go.Proofs.YteailgjiifdgcaaGreatDoor

/- The walks of spans.compare and of the closures of spans.Form and spans.Has. Condition: the library's variables as they were laid; bounds of at most a million bytes. -/
namespace Go.Proofs.YteailgjiifdgcaaGreatDoor
open Go.RowKit Go.Lib VerN

theorem ret_i {a b : Int} (h : a = b) : Ending.returned (.int .i64 a) = .returned (.int .i64 b) := by rw [h]
set_option maxRecDepth 10000 in
set_option maxHeartbeats 1000000 in
theorem spsCompare_any (lo hi lp hj : ByteArray) (hl : lo.size ≤ 1000000) (hl2 : lp.size ≤ 1000000) {w : World} (hD : Doors w) : Calls Tryz.prog 107 #[.agg #[.string lo, .string hi], .agg #[.string lp, .string hj]] w fun e w' => e = .returned (.int .i64 (cmpLoI lo.data.toList lp.data.toList)) ∧ Below w.heap.size w w' := by
 obtain ⟨W0, hW0⟩ : ∃ W0, W0 = (w.alloc (.cells #[.string lo, .string hi] 34)).alloc (.cells #[.string lp, .string hj] 34) := ⟨_, rfl⟩
 obtain ⟨nb, hnb⟩ : ∃ nb, nb = w.heap.size := ⟨_, rfl⟩
 have hw : Below w.heap.size w W0 := by rw [hW0]; exact (below_alloc1 _ _).alloc (by simp) _
 have c0 : W0.cell? ⟨nb, 0, none⟩ = some (.string lo) := by rw [hW0, hnb]; exact (pair_cells (pbox2_0 _ _ _ _ _)).1
 have d0 : W0.cell? ⟨nb + 1, 0, none⟩ = some (.string lp) := by rw [hW0, hnb]; exact (pair_cells (pbox2_1 _ _ _ _ _)).1
 have k1 : (lo.toList == lp.toList) = decide (lo.data.toList = lp.data.toList) := by rw [Txt.eq_dec]; exact decide_eq_decide.2 ba_eq
 have k2 : lo.toList.isEmpty = decide (lo.data.toList = []) := empty_bool lo
 have k3 : lp.toList.isEmpty = decide (lp.data.toList = []) := empty_bool lp
 have hP := calls_to hw (verCompare_any lo lp hl hl2 (hD.below hw))
 obtain ⟨p, hp⟩ : ∃ p, p = decide (lo.data.toList = lp.data.toList) := ⟨_, rfl⟩
 obtain ⟨q, hq⟩ : ∃ p, p = decide (lo.data.toList = []) := ⟨_, rfl⟩
 obtain ⟨r, hr⟩ : ∃ p, p = decide (lp.data.toList = []) := ⟨_, rfl⟩
 have hv : cmpLoI lo.data.toList lp.data.toList = if p = true then 0 else if q = true then -1 else if r = true then 1 else compareL lo.data.toList lp.data.toList := by
  rw [hp, hq, hr]; simp only [decide_eq_true_eq]; rfl
 rw [← hp] at k1
 rw [← hq] at k2
 rw [← hr] at k3
 clear hp hq hr
 obtain ⟨HP, Hw, HD, Hv⟩ := hd4 hP hw hD hv; clear hP hw hD hv
 go_enter Tryz.func107, Tryz.ntmps107
 go_upto_region 1 with (fail)
 rw [← hW0, ← hnb]
 clear hW0 hnb
 cases p with
 | true =>
  go_wp2_with fail
  go_ret
  exact ⟨ret_i (by rw [Hv.out]; rfl), Hw.out⟩
 | false =>
  cases q with
  | true =>
   go_wp2_with fail
   go_ret
   exact ⟨ret_i (by rw [Hv.out]; rfl), Hw.out⟩
  | false =>
   cases r with
   | true =>
    go_wp2_with fail
    go_ret
    exact ⟨ret_i (by rw [Hv.out]; rfl), Hw.out⟩
   | false =>
    go_wp2_with fail
    refine HP.out.mono ?_
    rintro e w1 ⟨rfl, hb1⟩
    have Hb1 := hd hb1; clear hb1
    go_wp2_with fail
    go_ret
    exact ⟨ret_i (by rw [Hv.out]; rfl), Hb1.out⟩
end Go.Proofs.YteailgjiifdgcaaGreatDoor

/- Plain facts: the stable sort's blocks: blocks of twenty are sorted, then merged two by two. -/
namespace Go.Proofs.YteailgjiifdgcaaGreatDoor.StbB
open Go.Sort Go.Proofs.YteailgjiifdgcaaGreatDoor.SortM Go.Proofs.YteailgjiifdgcaaGreatDoor.StbA
variable {α : Type} {lt : α → α → Bool}

def P1 (lt : α → α → Bool) (l0 : List α) (bs a : Nat) (d : Array α) : Prop := ∃ (cs : List (List α)) (rest : List α), l0 = cs.flatten ++ rest ∧ d.toList = (cs.map (ssort lt)).flatten ++ rest ∧ (∀ c ∈ cs, c.length = bs) ∧ a = cs.flatten.length
def P2 (lt : α → α → Bool) (l0 : List α) (bs : Nat) (d : Array α) : Prop := ∃ (cs : List (List α)) (rest : List α), l0 = cs.flatten ++ rest ∧ d.toList = (cs.map (ssort lt)).flatten ++ ssort lt rest ∧ (∀ c ∈ cs, c.length = bs) ∧ rest.length < bs
def P3 (lt : α → α → Bool) (l0 : List α) (bs a : Nat) (d : Array α) : Prop := ∃ (ds cs : List (List α)) (rest : List α), l0 = ds.flatten ++ (cs.flatten ++ rest) ∧ d.toList = (ds.map (ssort lt)).flatten ++ ((cs.map (ssort lt)).flatten ++ ssort lt rest) ∧ (∀ c ∈ ds, c.length = 2 * bs) ∧ (∀ c ∈ cs, c.length = bs) ∧ rest.length < bs ∧ a = ds.flatten.length

theorem flat_len (h : Swo lt) (cs : List (List α)) : ((cs.map (ssort lt)).flatten).length = cs.flatten.length := by
 induction cs with
 | nil => rfl
 | cons c cs ih => simp only [List.map_cons, List.flatten_cons, List.length_append, ssort_len h, ih]
theorem ssort_nil : ssort lt ([] : List α) = [] := rfl
theorem P1.start (l0 : List α) (bs : Nat) {d : Array α} (hd : d.toList = l0) : P1 lt l0 bs 0 d := ⟨[], l0, rfl, hd, by simp, rfl⟩
theorem P1.size (h : Swo lt) {l0 : List α} {bs a : Nat} {d : Array α} (hP : P1 lt l0 bs a d) : d.size = l0.length := by
 obtain ⟨cs, rest, h1, h2, _, _⟩ := hP
 rw [← Array.length_toList, h2, h1, List.length_append, List.length_append, flat_len h]
theorem P1.step [Inhabited α] (h : Swo lt) {l0 : List α} {bs a : Nat} {d : Array α} (hP : P1 lt l0 bs a d) (hb : a + bs ≤ l0.length) : P1 lt l0 bs (a + bs) (insertionSort lt d a (a + bs)) := by
 obtain ⟨cs, rest, h1, h2, h3, h4⟩ := hP
 have hl : rest = rest.take bs ++ rest.drop bs := (List.take_append_drop _ _).symm
 have hx : (rest.take bs).length = bs := by simp; rw [h1] at hb; simp at hb; simp at h4; omega
 generalize rest.take bs = x at hl hx
 generalize rest.drop bs = y at hl
 subst hl
 refine ⟨cs ++ [x], y, by rw [h1]; simp, ?_, fun c hc => ?_, by simp only [List.flatten_append, List.length_append, List.flatten_cons, List.flatten_nil, List.append_nil]; omega⟩
 ·rw [insertion_is h (d := d) (p := (cs.map (ssort lt)).flatten) (x := x) (q := y) (by rw [h2]; simp) (by rw [flat_len h]; exact h4) (by rw [flat_len h]; omega)]
  simp
 ·rcases List.mem_append.1 hc with hc | hc
  ·exact h3 c hc
  ·simp at hc; subst hc; exact hx
theorem P1.last [Inhabited α] (h : Swo lt) {l0 : List α} {bs a n : Nat} {d : Array α} (hP : P1 lt l0 bs a d) (hn : n = l0.length) (hb : n < a + bs) : P2 lt l0 bs (insertionSort lt d a n) := by
 obtain ⟨cs, rest, h1, h2, h3, h4⟩ := hP
 have hr : n = a + rest.length := by rw [hn, h1, List.length_append]; omega
 refine ⟨cs, rest, h1, ?_, h3, by omega⟩
 rw [insertion_is h (d := d) (p := (cs.map (ssort lt)).flatten) (x := rest) (q := []) (by rw [h2]; simp) (by rw [flat_len h]; exact h4) (by rw [flat_len h]; omega)]
 simp
theorem P1.le {l0 : List α} {bs a : Nat} {d : Array α} (hP : P1 lt l0 bs a d) : a ≤ l0.length := by
 obtain ⟨cs, rest, h1, h2, h3, h4⟩ := hP
 rw [h1, List.length_append]; omega
theorem P2.size (h : Swo lt) {l0 : List α} {bs : Nat} {d : Array α} (hP : P2 lt l0 bs d) : d.size = l0.length := by
 obtain ⟨cs, rest, h1, h2, _, _⟩ := hP
 rw [← Array.length_toList, h2, h1, List.length_append, List.length_append, flat_len h, ssort_len h]
theorem P3.start {l0 : List α} {bs : Nat} {d : Array α} (hP : P2 lt l0 bs d) : P3 lt l0 bs 0 d := by
 obtain ⟨cs, rest, h1, h2, h3, h4⟩ := hP
 exact ⟨[], cs, rest, h1, h2, by simp, h3, h4, rfl⟩
theorem P3.size (h : Swo lt) {l0 : List α} {bs a : Nat} {d : Array α} (hP : P3 lt l0 bs a d) : d.size = l0.length ∧ a ≤ d.size := by
 obtain ⟨ds, cs, rest, h1, h2, _, _, _, h3⟩ := hP
 have e1 : d.size = ds.flatten.length + (cs.flatten.length + rest.length) := by rw [← Array.length_toList, h2, List.length_append, List.length_append, flat_len h, flat_len h, ssort_len h]
 have e2 : l0.length = ds.flatten.length + (cs.flatten.length + rest.length) := by rw [h1, List.length_append, List.length_append]
 omega
theorem P3.step (h : Swo lt) {l0 : List α} {bs a : Nat} {d : Array α} (hP : P3 lt l0 bs a d) (hb : a + 2 * bs ≤ l0.length) (h0 : 0 < bs) :
  ∃ p u v q, d.toList = p ++ u ++ v ++ q ∧ Sorted lt u ∧ Sorted lt v ∧ a = p.length ∧ u.length = bs ∧ v.length = bs ∧ ∀ d' : Array α, d'.toList = p ++ ssort lt (u ++ v) ++ q → P3 lt l0 bs (a + 2 * bs) d' := by
 obtain ⟨ds, cs, rest, h1, h2, h3, h4, h5, h6⟩ := hP
 have hl : l0.length = a + (cs.flatten.length + rest.length) := by rw [h1, List.length_append, List.length_append, h6]
 match cs with
 | [] => simp at hl; omega
 | [c] => have := h4 c (by simp); simp at hl; omega
 | c1 :: c2 :: cs =>
  have k1 := h4 c1 (by simp)
  have k2 := h4 c2 (by simp)
  refine ⟨(ds.map (ssort lt)).flatten, ssort lt c1, ssort lt c2, (cs.map (ssort lt)).flatten ++ ssort lt rest, by rw [h2]; simp, ssort_sorted h _, ssort_sorted h _, by rw [flat_len h]; exact h6, by rw [ssort_len h]; exact k1, by rw [ssort_len h]; exact k2, fun d' hd' => ?_⟩
  refine ⟨ds ++ [c1 ++ c2], cs, rest, by rw [h1]; simp, ?_, fun c hc => ?_, fun c hc => h4 c (by simp [hc]), h5, by simp only [List.flatten_append, List.length_append, List.flatten_cons, List.flatten_nil, List.append_nil]; omega⟩
  ·rw [hd', ssort_app h]; simp
  ·rcases List.mem_append.1 hc with hc | hc
   ·exact h3 c hc
   ·simp at hc; subst hc; rw [List.length_append]; omega
theorem P3.last1 (h : Swo lt) {l0 : List α} {bs a n : Nat} {d : Array α} (hP : P3 lt l0 bs a d) (hn : n = l0.length) (hb : n < a + 2 * bs) (hm : a + bs < n) :
  ∃ p u v, d.toList = p ++ u ++ v ++ [] ∧ Sorted lt u ∧ Sorted lt v ∧ a = p.length ∧ u.length = bs ∧ a + bs + v.length = n ∧ ∀ d' : Array α, d'.toList = p ++ ssort lt (u ++ v) ++ [] → P2 lt l0 (2 * bs) d' := by
 obtain ⟨ds, cs, rest, h1, h2, h3, h4, h5, h6⟩ := hP
 have hl : n = a + (cs.flatten.length + rest.length) := by rw [hn, h1, List.length_append, List.length_append, h6]
 match cs with
 | [] => simp at hl; omega
 | c1 :: c2 :: cs =>
  have k1 := h4 c1 (by simp)
  have k2 := h4 c2 (by simp)
  simp at hl; omega
 | [c] =>
  have k1 := h4 c (by simp)
  have hl' : n = a + (c.length + rest.length) := by simpa using hl
  refine ⟨(ds.map (ssort lt)).flatten, ssort lt c, ssort lt rest, by rw [h2]; simp, ssort_sorted h _, ssort_sorted h _, by rw [flat_len h]; exact h6, by rw [ssort_len h]; exact k1, by rw [ssort_len h]; omega, fun d' hd' => ?_⟩
  refine ⟨ds, c ++ rest, by rw [h1]; simp, ?_, h3, by rw [List.length_append]; omega⟩
  rw [hd', ssort_app h]; simp
theorem P3.last2 {l0 : List α} {bs a n : Nat} {d : Array α} (hP : P3 lt l0 bs a d) (hn : n = l0.length) (hb : n < a + 2 * bs) (hm : ¬ a + bs < n) (h0 : 0 < bs) : P2 lt l0 (2 * bs) d := by
 obtain ⟨ds, cs, rest, h1, h2, h3, h4, h5, h6⟩ := hP
 have hl : n = a + (cs.flatten.length + rest.length) := by rw [hn, h1, List.length_append, List.length_append, h6]
 match cs with
 | [] => exact ⟨ds, rest, by rw [h1]; simp, by rw [h2]; simp, h3, by omega⟩
 | c1 :: c2 :: cs =>
  have k1 := h4 c1 (by simp)
  have k2 := h4 c2 (by simp)
  simp at hl; omega
 | [c] =>
  have k1 := h4 c (by simp)
  have hl' : n = a + (c.length + rest.length) := by simpa using hl
  have hr : rest = [] := List.eq_nil_of_length_eq_zero (by omega)
  subst hr
  exact ⟨ds, c, by rw [h1]; simp, by rw [h2, ssort_nil]; simp, h3, by omega⟩
theorem P2.done {l0 : List α} {bs : Nat} {d : Array α} (hP : P2 lt l0 bs d) (hb : ¬ bs < l0.length) : d.toList = ssort lt l0 := by
 obtain ⟨cs, rest, h1, h2, h3, h4⟩ := hP
 match cs with
 | [] => rw [h2, h1]; simp
 | [c] =>
  have k1 := h3 c (by simp)
  have hl : l0.length = c.length + rest.length := by rw [h1]; simp
  have hr : rest = [] := List.eq_nil_of_length_eq_zero (by omega)
  subst hr
  rw [h2, h1, ssort_nil]; simp
 | c1 :: c2 :: cs =>
  have k1 := h3 c1 (by simp)
  have k2 := h3 c2 (by simp)
  have hl : l0.length = c1.length + (c2.length + (cs.flatten.length + rest.length)) := by rw [h1]; simp
  omega
end Go.Proofs.YteailgjiifdgcaaGreatDoor.StbB

/- The row of a sort, as long as the comparison only makes memory: the elements' cells in a block, the blocks below B as they were. No condition. -/
namespace Go.Proofs.YteailgjiifdgcaaGreatDoor
open Go.RowKit Go.Lib Go.Sort
namespace SortR

theorem sets_row (g : Nat) (t : TypeId) : ∀ (vs : List Value) (o : Nat) (w : World) (cs : Array Value), w.heap[g]? = some (.cells cs t (0, 0)) →
  ∃ cs' : Array Value, (w.setCells g o vs).heap[g]? = some (.cells cs' t (0, 0)) ∧ cs'.size = cs.size ∧ ∀ p, p < cs.size → cs'[p]? = if o ≤ p ∧ p < o + vs.length then vs[p - o]? else cs[p]?
 | [], o, w, cs, h => ⟨cs, h, rfl, fun p hp => by rw [if_neg (by simp)]⟩
 | v :: vs, o, w, cs, h => by
  have h1 := heap_setCell_same w g o cs t v h
  obtain ⟨cs', h2, h3, h4⟩ := sets_row g t vs (o + 1) _ _ h1
  refine ⟨cs', h2, by rw [h3]; simp, fun p hp => ?_⟩
  rw [h4 p (by simpa using hp), List.length_cons]
  by_cases e : p = o
  ·subst e
   rw [if_neg (by omega), if_pos (by omega), Nat.sub_self]
   simp [hp]
  ·by_cases hin : o + 1 ≤ p ∧ p < o + 1 + vs.length
   ·rw [if_pos hin, if_pos (by omega), show p - o = (p - (o + 1)) + 1 by omega, List.getElem?_cons_succ]
   ·rw [if_neg hin, if_neg (by omega)]
    exact Array.getElem?_setIfInBounds_ne (fun e' => e e'.symm)
theorem sets_frm (g : Nat) {w0 : World} : ∀ (vs : List Value) (o : Nat) (w : World), Frm (fun b => b = g) w0 w → Frm (fun b => b = g) w0 (w.setCells g o vs)
 | [], _, _, h => h
 | v :: vs, o, w, h => sets_frm g vs (o + 1) _ (frm_cell h o v)
def szOf (w : World) (b : Nat) : Nat := match w.heap[b]? with
 | some (.cells cs _ _) => cs.size
 | _ => 0
theorem szOf_is {w : World} {b : Nat} {cs : Array Value} {t : TypeId} {fr : Nat × Nat} (h : w.heap[b]? = some (.cells cs t fr)) : szOf w b = cs.size := by unfold szOf; rw [h]
variable {α : Type} [Inhabited α] {enc : α → List Value} {k : Nat} {t : TypeId} {blk off : Nat} {w0 : World}
structure SRW (t : TypeId) (enc : α → List Value) (k : Nat) (w0 : World) (blk off : Nat) (d : Array α) (W : World) : Prop where
 frm : Frm (fun b => b = blk) w0 W
 row : ∃ cs : Array Value, W.heap[blk]? = some (.cells cs t (0, 0)) ∧ cs.size = szOf w0 blk ∧ ∀ i, i < d.size → ∀ c, c < k → off + (i * k + c) < szOf w0 blk ∧ cs[off + (i * k + c)]? = (enc d[i]!)[c]?
theorem SRW.below {d : Array α} {W W' : World} (h : SRW t enc k w0 blk off d W) (hb : Below W.heap.size W W') : SRW t enc k w0 blk off d W' := by
 obtain ⟨cs, h1, h2, h3⟩ := h.row
 exact ⟨h.frm.trans (Frm.of_below (S := fun b => b = blk) hb) (fun _ _ e => e), cs, heap_below hb h1, h2, h3⟩
theorem SRW.drew {d : Array α} {W : World} (h : SRW t enc k w0 blk off d W) : SRW t enc k w0 blk off d W.drew := by
 obtain ⟨cs, h1, h2, h3⟩ := h.row
 exact ⟨h.frm.drew, cs, h1, h2, h3⟩
theorem SRW.cell {d : Array α} {W : World} (h : SRW t enc k w0 blk off d W) {i : Nat} (hi : i < d.size) {c : Nat} (hc : c < k) {v : Value} (hv : (enc d[i]!)[c]? = some v) : W.cell? ⟨blk, off + (i * k + c), none⟩ = some v ∧ W.frozen? ⟨blk, off + (i * k + c), none⟩ = false := by
 obtain ⟨cs, h1, h2, h3⟩ := h.row
 exact ⟨by rw [cells_at h1, (h3 i hi c hc).2, hv], frozen_at h1 _⟩
theorem mul_apart {i j k c : Nat} (h : i ≠ j) (hc : c < k) : i * k + c < j * k ∨ j * k + k ≤ i * k + c := by
 rcases Nat.lt_or_gt_of_ne h with h | h
 ·have := Nat.mul_le_mul_right k (show i + 1 ≤ j by omega)
  rw [Nat.succ_mul] at this
  exact .inl (by omega)
 ·have := Nat.mul_le_mul_right k (show j + 1 ≤ i by omega)
  rw [Nat.succ_mul] at this
  exact .inr (by omega)
theorem SRW.put {d : Array α} {W : World} (h : SRW t enc k w0 blk off d W) (hk : ∀ x, (enc x).length = k) {i : Nat} (hi : i < d.size) (x : α) : SRW t enc k w0 blk off (d.setIfInBounds i x) (W.setCells blk (off + i * k) (enc x)) := by
 obtain ⟨cs, h1, h2, h3⟩ := h.row
 obtain ⟨cs', g1, g2, g3⟩ := sets_row blk t (enc x) (off + i * k) W cs h1
 refine ⟨sets_frm blk _ _ _ h.frm, cs', g1, by rw [g2, h2], fun j hj c hc => ?_⟩
 have hj' : j < d.size := by simpa using hj
 have h4 := h3 j hj' c hc
 refine ⟨h4.1, ?_⟩
 rw [g3 _ (by rw [h2]; exact h4.1), hk]
 by_cases e : j = i
 ·subst e
  rw [if_pos (by omega), show off + (j * k + c) - (off + j * k) = c by omega]
  have : (d.setIfInBounds j x)[j]! = x := by rw [getElem!_pos _ j (by simpa using hj')]; simp
  rw [this]
 ·have ha := mul_apart e hc
  rw [if_neg (by omega), h4.2]
  have : (d.setIfInBounds i x)[j]! = d[j]! := by
   rw [getElem!_pos _ j (by simpa using hj'), getElem!_pos d j hj']
   exact Array.getElem_setIfInBounds_ne hj' (fun e' => e e'.symm)
  rw [this]
theorem SRW.exch {d : Array α} {W : World} (h : SRW t enc k w0 blk off d W) (hk : ∀ x, (enc x).length = k) {i j : Nat} (hi : i < d.size) (hj : j < d.size) :
  SRW t enc k w0 blk off (swp d i j) ((W.setCells blk (off + i * k) (enc d[j]!)).setCells blk (off + j * k) (enc d[i]!)) :=
 (h.put hk hi d[j]!).put hk (by simpa using hj) d[i]!
theorem srw_of_owns (hk : ∀ x, (enc x).length = k) {w : World} {base g n cap : Nat} {e : TypeId} {l : List α} (h : w.ownsRow base e k (.slice (some ⟨g, 0, none⟩) n cap) n (l.flatMap enc)) (hn : l.length = n) : SRW e enc k w g 0 l.toArray w := by
 rcases h.2 with ⟨e0, _⟩ | ⟨g', cap', cur, e0, hb, hg, hn', hm, hcs, ht⟩
 ·cases e0
 ·injection e0 with e1 _ e3
  injection e1 with e1
  injection e1 with e1
  subst e1; subst e3
  have hz := szOf_is hg
  refine ⟨Frm.refl _ _, cur, hg, hz.symm, fun i hi c hc => ?_⟩
  have hi' : i < l.length := by simpa using hi
  have h1 := Nat.mul_le_mul_right k (show i + 1 ≤ n by omega)
  rw [Nat.succ_mul] at h1
  have h2 := Nat.mul_le_mul_right k hn'
  refine ⟨by rw [hz, hcs]; omega, ?_⟩
  have h3 := flat_get enc k hk l i hi' c hc
  rw [← ht, List.getElem?_take, if_pos (by omega), Array.getElem?_toList] at h3
  rw [Nat.zero_add, h3]
  have : l.toArray[i]! = l[i] := by rw [getElem!_pos l.toArray i hi]; simp
  rw [this]
theorem owns_of_srw (hk : ∀ x, (enc x).length = k) (k0 : 0 < k) {w W : World} {base g n cap : Nat} {e : TypeId} {xs : List Value} {d : Array α} (h : w.ownsRow base e k (.slice (some ⟨g, 0, none⟩) n cap) n xs) (S : SRW e enc k w g 0 d W) (hs : d.size = n) :
  W.ownsRow base e k (.slice (some ⟨g, 0, none⟩) n cap) n (d.toList.flatMap enc) ∧ ∀ w0, Below base w0 w → base ≤ w.heap.size → Below base w0 W := by
 rcases h.2 with ⟨e0, _⟩ | ⟨g', cap', cur, e0, hb, hg, hn', hm, hcs, ht⟩
 ·cases e0
 ·injection e0 with e1 _ e3
  injection e1 with e1
  injection e1 with e1
  subst e1; subst e3
  obtain ⟨cs, h1, h2, h3⟩ := S.row
  have hz := szOf_is hg
  have hlen : ∀ l : List α, (l.flatMap enc).length = l.length * k := fun l => by
   induction l with
   | nil => simp
   | cons x l ih => rw [List.flatMap_cons, List.length_append, ih, hk, List.length_cons, Nat.succ_mul]; omega
  have hd : (d.toList.flatMap enc).length = n * k := by rw [hlen]; simp [hs]
  refine ⟨⟨hd, .inr ⟨g, cap, cs, rfl, hb, h1, hn', hm, by rw [h2, hz, hcs], ?_⟩⟩, fun w0 hB hbs => hB.trans (S.frm.below hbs (fun k e => by rw [e]; exact hb))⟩
  apply List.ext_getElem?
  intro p
  rw [List.getElem?_take]
  by_cases hp : p < n * k
  ·rw [if_pos hp, Array.getElem?_toList]
   have hi : p / k < d.size := by rw [hs]; exact Nat.div_lt_of_lt_mul (by rwa [Nat.mul_comm])
   have hc : p % k < k := Nat.mod_lt _ k0
   have e5 := (h3 (p / k) hi (p % k) hc).2
   have e6 := flat_get enc k hk d.toList (p / k) (by simpa using hi) (p % k) hc
   rw [Nat.zero_add, Nat.div_add_mod'] at e5
   rw [Nat.div_add_mod'] at e6
   rw [e5, e6, getElem!_pos d _ hi, Array.getElem_toList]
  ·rw [if_neg hp, List.getElem?_eq_none (by omega)]
end SortR
end Go.Proofs.YteailgjiifdgcaaGreatDoor

/- The walk of the merger's add, at spans. Condition: the library's variables as they were laid; few spans of bounds of at most 9000 bytes. -/
namespace Go.Proofs.YteailgjiifdgcaaGreatDoor
open Go.RowKit Go.Lib VerN

def Mrg (w0 : World) (x : Nat) (O : List BSp) (w : World) : Prop := ∃ v, w.heap[x]? = some (.cells #[v, .func (.func 108) #[] #[], .func (.func 109) #[] #[]] 170 (0, 0)) ∧ w.ownsRow w0.heap.size 34 2 v O.length (O.flatMap spCells) ∧ Below w0.heap.size w0 w ∧ w0.heap.size ≤ x
theorem own_sp {w : World} {B g n cap : Nat} {O : List BSp} (h : w.ownsRow B 34 2 (.slice (some ⟨g, 0, none⟩) n cap) n (O.flatMap spCells)) (i : Nat) (hi : i < O.length) : w.cell? ⟨g, i * 2, none⟩ = some (.string O[i].1) ∧ w.cell? ⟨g, i * 2 + 1, none⟩ = some (.string O[i].2) := by
 have h0 := h.cells (g := g) rfl (i * 2 + 0) (.string O[i].1) (by rw [sps_flat O i hi 0 (by omega)]; rfl)
 have h1 := h.cells (g := g) rfl (i * 2 + 1) (.string O[i].2) (by rw [sps_flat O i hi 1 (by omega)]; rfl)
 rw [Addr.add_lit, Nat.zero_add] at h0 h1
 exact ⟨h0, h1⟩
theorem own_froz {w : World} {B g n cap size : Nat} {e : TypeId} {xs : List Value} (h : w.ownsRow B e size (.slice (some ⟨g, 0, none⟩) n cap) n xs) (i : Nat) : w.frozen? ⟨g, i, none⟩ = false := by
 rcases h.2 with ⟨e0, _⟩ | ⟨g', cap', cur, e0, _, hg, _⟩
 ·cases e0
 ·injection e0 with e1 _ _
  injection e1 with e1
  injection e1 with e1
  subst e1
  exact frozen_at hg i
theorem own_sp_put {w : World} {B g n cap : Nat} {O : List BSp} (h : w.ownsRow B 34 2 (.slice (some ⟨g, 0, none⟩) n cap) n (O.flatMap spCells)) (hn : O.length = n) {i : Nat} (hi : i < n) (x : BSp) :
  ((w.setCell ⟨g, i * 2, none⟩ (.string x.1)).setCell ⟨g, i * 2 + 1, none⟩ (.string x.2)).ownsRow B 34 2 (.slice (some ⟨g, 0, none⟩) n cap) n ((O.set i x).flatMap spCells) := by
 have S := SortR.srw_of_owns spCells_len h hn
 have S2 := S.put spCells_len (i := i) (by simp; omega) x
 have h2 := SortR.owns_of_srw spCells_len (by decide) h S2 (by simp; omega)
 have e : (O.toArray.setIfInBounds i x).toList = O.set i x := by simp
 rw [e] at h2
 have h3 := h2.1
 rw [Nat.zero_add] at h3
 exact h3
theorem mrg_end {w0 w8 : World} {x g8 c8 n : Nat} {v : Value} {O' : List BSp} (hc8 : w8.heap[x]? = some (.cells #[v, .func (.func 108) #[] #[], .func (.func 109) #[] #[]] 170 (0, 0)))
  (hown8 : w8.ownsRow w0.heap.size 34 2 (.slice (some ⟨g8, 0, none⟩) n c8) n (O'.flatMap spCells)) (hn : O'.length = n) (hb : Below w0.heap.size w0 w8) (hxB : w0.heap.size ≤ x) : Mrg w0 x O' (w8.setCell ⟨x, 0, none⟩ (.slice (some ⟨g8, 0, none⟩) n c8)) := by
 subst hn
 have f8 : Frm (fun k => k = x) w8 (w8.setCell ⟨x, 0, none⟩ (.slice (some ⟨g8, 0, none⟩) O'.length c8)) := frm_cell (Frm.refl _ w8) 0 _
 refine ⟨_, heap_setCell_same _ x 0 _ _ _ hc8, f8.owns hown8 (fun k hk e => apart_block hown8 hc8 (by decide) (by rw [hk, e])), hb.trans (f8.below hb.size (fun k hk => by rw [hk]; exact hxB)), hxB⟩
set_option maxRecDepth 10000 in
set_option maxHeartbeats 40000000 in
theorem mergerAdd_nil {w0 w : World} {x : Nat} (h : Mrg w0 x [] w) (s : BSp) (hs : s.1.size ≤ 9000 ∧ s.2.size ≤ 9000) (hD : Doors w0) :
  Calls Tryz.prog 110 #[.pointer (some ⟨x, 0, none⟩), .agg #[.string s.1, .string s.2]] w fun e w' => e = .returned (.tuple #[]) ∧ Mrg w0 x (addB [] s) w' := by
 obtain ⟨O, hOO⟩ : ∃ O : List BSp, O = [] := ⟨_, rfl⟩
 rw [← hOO] at h
 have hO : ∀ z ∈ O, z.1.size ≤ 9000 ∧ z.2.size ≤ 9000 := by rw [hOO]; simp
 have hl : O.length ≤ 100000 := by rw [hOO]; simp
 obtain ⟨v, hx, hown, hbel, hxB⟩ := h
 obtain ⟨s1, s2⟩ := s
 have hs1 : s1.size ≤ 9000 := hs.1
 have hs2 : s2.size ≤ 9000 := hs.2
 obtain ⟨W0, hW0⟩ : ∃ W0, W0 = w.alloc (.cells #[.string s1, .string s2] 34) := ⟨_, rfl⟩
 obtain ⟨nb, hnb⟩ : ∃ nb, nb = w.heap.size := ⟨_, rfl⟩
 have hw : Below w.heap.size w W0 := by rw [hW0]; exact below_alloc1 _ _
 have hx0 := heap_below hw hx
 have hn0 : W0.heap[nb]? = some (.cells #[.string s1, .string s2] 34 (0, 0)) := by rw [hW0, hnb]; exact heap_new_at rfl
 have hown0 := ownsRow_below hown hw
 have hbel0 := hbel.trans (hw.mono hbel.size)
 obtain ⟨m, hm⟩ : ∃ m, m = O.length := ⟨_, rfl⟩
 obtain ⟨c0, c1, c2, f0, _, _⟩ := trip_cells hx0
 obtain ⟨b0, b1, _, _⟩ := pair_cells hn0
 have hne := apart_block hown0 hx0 (by decide)
 rw [← hm] at hown0 hl
 have hlow : ∀ j, v.ownBlock = some j → j < nb := fun j e => by rw [hnb]; exact (hown.lt j e).2
 clear hx hown hbel
 subst hOO
 obtain ⟨a, cap, rfl⟩ := own_shape hown0
 simp only [List.length_nil] at hm
 subst hm
 obtain ⟨Hw, Hx0, Hn0, Hown0, Hbel0, Hne, HD, HO, Hlow⟩ := hd9 hw hx0 hn0 hown0 hbel0 hne hD hO hlow; clear hw hx0 hn0 hown0 hbel0 hne hD hO hlow
 go_enter Tryz.func110, Tryz.ntmps110
 go_upto_region 1 with (fail)
 rw [← hW0, ← hnb]
 clear hW0 hnb
 go_upto_region 2 with (fail)
 go_quiet (fail)
 go_upto_region 4 with (fail)
 have hbd : Below W0.heap.size W0 (W0.drewN (nq + 1)) := bel_drewN (Below.refl _ _) (nq + 1)
 have hba : Below W0.heap.size W0 ((W0.drewN (nq + 1)).alloc (.cells #[.string s1, .string s2] 34)) := hbd.alloc hbd.size _
 have ca0 := cell_later hba c0
 have hownd := ownsRow_below Hown0.out hbd
 have hxd := heap_below hbd Hx0.out
 have hbeld := Hbel0.out.trans (hbd.mono Hbel0.out.size)
 have hBd := hbeld.size
 have bb0 := cell_later hbd b0
 have bb1 := cell_later hbd b1
 have cc0 := cell_later hbd c0
 obtain ⟨Hownd, Hxd, Hbeld, Hbd, Hba⟩ := hd5 hownd hxd hbeld hbd hba; clear hownd hxd hbeld hbd hba
 go_region_law (refine step_append_some elem_spn (w := W0.drewN (nq + 1)) rfl (.tmp 53) (.tmp 55) rfl w0.heap.size (.slice a 0 cap) 0 [] rfl Hownd.out 1 (by decide) #[.string s1, .string s2] rfl rfl (by simp [Value.oneCell']) (by omega) (by unfold maxLen; omega) hBd ?_; intro g8 c8 w8 hown8 hg8 hm8; have hc8 := heap_to Hxd.out (frm_of_grown hg8) Hne.out; have d0 := cells_at hc8 0; have e0 := frozen_at hc8 0; simp only [List.getElem?_toArray, List.getElem?_cons_zero] at d0)
 all_goals
  go_end0
  exact ⟨rfl, mrg_end (O' := addB [] (s1, s2)) hc8 hown8 rfl (bel_own Hbeld.out Hownd.out (Nat.le_refl _) hg8 hBd) hxB⟩
set_option maxRecDepth 10000 in
set_option maxHeartbeats 40000000 in
theorem mergerAdd_no {w0 w : World} {x : Nat} {Q : List BSp} {z1 z2 : ByteArray} (h : Mrg w0 x (Q ++ [(z1, z2)]) w) (hO : ∀ z ∈ Q ++ [(z1, z2)], z.1.size ≤ 9000 ∧ z.2.size ≤ 9000) (hl : (Q ++ [(z1, z2)]).length ≤ 100000) (s : BSp) (hs : s.1.size ≤ 9000 ∧ s.2.size ≤ 9000) (hok : meetOk (dS (z1, z2)) (dS s) = false) (hD : Doors w0) :
  Calls Tryz.prog 110 #[.pointer (some ⟨x, 0, none⟩), .agg #[.string s.1, .string s.2]] w fun e w' => e = .returned (.tuple #[]) ∧ Mrg w0 x (Q ++ [(z1, z2)] ++ [s]) w' := by
 obtain ⟨v, hx, hown, hbel, hxB⟩ := h
 obtain ⟨s1, s2⟩ := s
 have hs1 : s1.size ≤ 9000 := hs.1
 have hs2 : s2.size ≤ 9000 := hs.2
 obtain ⟨W0, hW0⟩ : ∃ W0, W0 = w.alloc (.cells #[.string s1, .string s2] 34) := ⟨_, rfl⟩
 obtain ⟨nb, hnb⟩ : ∃ nb, nb = w.heap.size := ⟨_, rfl⟩
 have hw : Below w.heap.size w W0 := by rw [hW0]; exact below_alloc1 _ _
 have hx0 := heap_below hw hx
 have hn0 : W0.heap[nb]? = some (.cells #[.string s1, .string s2] 34 (0, 0)) := by rw [hW0, hnb]; exact heap_new_at rfl
 have hown0 := ownsRow_below hown hw
 have hbel0 := hbel.trans (hw.mono hbel.size)
 obtain ⟨m, hm⟩ : ∃ m, m = (Q ++ [(z1, z2)]).length := ⟨_, rfl⟩
 obtain ⟨c0, c1, c2, f0, _, _⟩ := trip_cells hx0
 obtain ⟨b0, b1, _, _⟩ := pair_cells hn0
 have hne := apart_block hown0 hx0 (by decide)
 rw [← hm] at hown0 hl
 have hlow : ∀ j, v.ownBlock = some j → j < nb := fun j e => by rw [hnb]; exact (hown.lt j e).2
 clear hx hown hbel
 obtain ⟨k, hk⟩ : ∃ k, k = Q.length := ⟨_, rfl⟩
 have hmk : m = k + 1 := by rw [hm, hk]; simp
 obtain ⟨g, cap, rfl⟩ : ∃ g cap, v = .slice (some ⟨g, 0, none⟩) m cap := by
  rcases hown0.2 with ⟨h1, h2⟩ | ⟨g, cap, _, h1, _⟩
  ·omega
  ·exact ⟨_, cap, h1⟩
 have hz0 := own_sp hown0 k (by rw [hk]; simp)
 have ez : (Q ++ [(z1, z2)])[k]'(by rw [hk]; simp) = (z1, z2) := by simp [hk]
 rw [ez] at hz0
 have hzz := hO (z1, z2) (by simp)
 have hz1 : z1.size ≤ 9000 := hzz.1
 have hz2 : z2.size ≤ 9000 := hzz.2
 have hS : ∀ W, Below W0.heap.size W0 W → W.cell? ⟨x, 0, none⟩ = some (.slice (some ⟨g, 0, none⟩) m cap) ∧ W.cell? ⟨x, 1, none⟩ = some (.func (.func 108) #[] #[]) ∧ W.cell? ⟨x, 2, none⟩ = some (.func (.func 109) #[] #[]) ∧ W.cell? ⟨nb, 0, none⟩ = some (.string s1) ∧ W.cell? ⟨nb, 1, none⟩ = some (.string s2) ∧ W.cell? ⟨g, k * 2, none⟩ = some (.string z1) ∧ W.cell? ⟨g, k * 2 + 1, none⟩ = some (.string z2) := fun W hW =>
  ⟨cell_later hW c0, cell_later hW c1, cell_later hW c2, cell_later hW b0, cell_later hW b1, cell_later hW hz0.1, cell_later hW hz0.2⟩
 have hgx : x ≠ g := fun e => hne (by rw [e]; rfl)
 have hgn : nb ≠ g := fun e => by have := hlow g rfl; omega
 have hSt : ∀ W, Below W0.heap.size W0 W → ∀ p q, ((W.setCell ⟨g, k * 2, none⟩ p).setCell ⟨g, k * 2 + 1, none⟩ q).cell? ⟨x, 0, none⟩ = some (.slice (some ⟨g, 0, none⟩) m cap) ∧ ((W.setCell ⟨g, k * 2, none⟩ p).setCell ⟨g, k * 2 + 1, none⟩ q).cell? ⟨x, 2, none⟩ = some (.func (.func 109) #[] #[]) ∧ ((W.setCell ⟨g, k * 2, none⟩ p).setCell ⟨g, k * 2 + 1, none⟩ q).cell? ⟨nb, 0, none⟩ = some (.string s1) ∧ ((W.setCell ⟨g, k * 2, none⟩ p).setCell ⟨g, k * 2 + 1, none⟩ q).cell? ⟨nb, 1, none⟩ = some (.string s2) := fun W hW p q => by
  have hf := frm_cell (frm_cell (Frm.refl (fun b => b = g) W) (k * 2) p) (k * 2 + 1) q
  obtain ⟨t0, _, t2, _⟩ := trip_cells (heap_to (heap_below hW hx0) hf hgx)
  obtain ⟨u0, u1, _⟩ := pair_cells (heap_to (heap_below hW hn0) hf hgn)
  exact ⟨t0, t2, u0, u1⟩
 have hFz : ∀ W, Below W0.heap.size W0 W → W.frozen? ⟨g, k * 2, none⟩ = false ∧ W.frozen? ⟨g, k * 2 + 1, none⟩ = false := fun W hW => ⟨own_froz (ownsRow_below hown0 hW) _, own_froz (ownsRow_below hown0 hW) _⟩
 have hJ := fun (W : World) (k : Below W0.heap.size W0 W) => joins_any z1 z2 s1 s2 (by omega) (by omega) (by omega) (by omega) ((hD.from (Nat.le_refl _) hbel0).below k)
 have hK := fun (W : World) (k : Below W0.heap.size W0 W) => join_any z1 z2 s1 s2 (by omega) (by omega) (by omega) (by omega) ((hD.from (Nat.le_refl _) hbel0).below k)
 have hok2 : meetOk (z1.data.toList, z2.data.toList) (s1.data.toList, s2.data.toList) = false := hok
 rw [hok2] at hJ
 have hkl : (k : Int) < (m : Int) := by omega
 have k00 : (0 : Int) ≤ (k : Int) := by omega
 have kw : IntKind.i64.wrap ((m : Int) - 1) = (k : Int) := by rw [IntWalk.i64_in _ (by omega)]; omega
 have kp : (0 : Int) < (m : Int) := by omega
 have kn : 0 < m := by omega
 have kln : k < m := by omega
 have kt : decide ((0 : Int) < (m : Int)) = true := decide_eq_true kp
 clear hok hok2 hz0 ez
 obtain ⟨Hw, Hx0, Hn0, Hown0, Hbel0, Hne, HD, HO, Hlow, Hgx, Hgn, HS, HSt, HFz, HJ, HK⟩ := hd16 hw hx0 hn0 hown0 hbel0 hne hD hO hlow hgx hgn hS hSt hFz hJ hK; obtain ⟨Hm, Hk, Hzz, Hmk⟩ := hd4 hm hk hzz hmk; clear hw hx0 hn0 hown0 hbel0 hne hD hO hlow hgx hgn hS hSt hFz hJ hK hm hk hzz hmk
 go_enter Tryz.func110, Tryz.ntmps110
 go_upto_region 1 with (fail)
 rw [← hW0, ← hnb]
 clear hW0 hnb
 go_upto_region 2 with (fail)
 have mixed : Tryz.prog.follows .mixedOrders = true := by kernel_rfl
 have hbz := bel_drewN (Below.refl W0.heap.size W0) 1
 have hcz := HS.out _ hbz
 go_region_held3 (fun w' => w'.cell? ⟨x, 0, none⟩ = some (.slice (some ⟨g, 0, none⟩) m cap) ∧ w'.cell? ⟨x, 1, none⟩ = some (.func (.func 108) #[] #[]) ∧ w'.cell? ⟨x, 2, none⟩ = some (.func (.func 109) #[] #[]) ∧ w'.cell? ⟨nb, 0, none⟩ = some (.string s1) ∧ w'.cell? ⟨nb, 1, none⟩ = some (.string s2) ∧ w'.cell? ⟨g, k * 2, none⟩ = some (.string z1) ∧ w'.cell? ⟨g, k * 2 + 1, none⟩ = some (.string z2)) (first | exact hcz | go_keep) (first | (go_at_call 108; refine (HJ.out _ (by exact hbz)).mono ?_; rintro e wz ⟨rfl, hsz⟩; replace hbz := hbz.trans (hsz.mono hbz.size); replace hcz := HS.out _ hbz))
 go_upto_region 4 with (fail)
 have hbd : Below W0.heap.size W0 wz.drew := Below.drew hbz
 have hba : Below W0.heap.size W0 (wz.drew.alloc (.cells #[.string s1, .string s2] 34)) := hbd.alloc hbd.size _
 have hba2 : Below W0.heap.size W0 (wz.alloc (.cells #[.string s1, .string s2] 34)) := hbz.alloc hbz.size _
 have ca0 := cell_later hba2 c0
 have hownd := ownsRow_below Hown0.out hbd
 have hxd := heap_below hbd Hx0.out
 have hbeld := Hbel0.out.trans (hbd.mono Hbel0.out.size)
 have hBd := hbeld.size
 obtain ⟨q0, q1, q2, q3, q4, q5, q6⟩ := HS.out _ hbz
 have hm1 : m + 1 ≤ 100001 := by omega
 clear hcz
 obtain ⟨Hownd, Hxd, Hbeld, Hbd, Hba, Hba2⟩ := hd6 hownd hxd hbeld hbd hba hba2; clear hownd hxd hbeld hbd hba hba2
 go_region_law (refine step_append_some elem_spn (w := wz.drew) rfl (.tmp 53) (.tmp 55) rfl w0.heap.size (.slice (some ⟨g, 0, none⟩) m cap) m ((Q ++ [(z1, z2)]).flatMap spCells) rfl Hownd.out 1 (by decide) #[.string s1, .string s2] rfl rfl (by simp [Value.oneCell']) (by omega) (by unfold maxLen; omega) hBd ?_; intro g8 c8 w8 hown8 hg8 hm8; have hc8 := heap_to Hxd.out (frm_of_grown hg8) Hne.out; have d0 := cells_at hc8 0; have e0 := frozen_at hc8 0; simp only [List.getElem?_toArray, List.getElem?_cons_zero] at d0)
 all_goals
  go_end0
  exact ⟨rfl, mrg_end (O' := Q ++ [(z1, z2)] ++ [(s1, s2)]) hc8 (by rw [List.flatMap_append]; exact hown8) (by rw [List.length_append, ← Hm.out]; rfl) (bel_own Hbeld.out Hownd.out (Nat.le_refl _) hg8 hBd) hxB⟩
end Go.Proofs.YteailgjiifdgcaaGreatDoor

/- The walk of the merger's add, at spans: two that meet; all ways. Condition: the library's variables as they were laid; few spans of bounds of at most 9000 bytes. -/
namespace Go.Proofs.YteailgjiifdgcaaGreatDoor
open Go.RowKit Go.Lib VerN

theorem mrg_put {w0 W : World} {x g m k cap : Nat} {Q : List BSp} {z j : BSp} (hp : ((W.setCell ⟨g, k * 2, none⟩ (.string j.1)).setCell ⟨g, k * 2 + 1, none⟩ (.string j.2)).ownsRow w0.heap.size 34 2 (.slice (some ⟨g, 0, none⟩) m cap) m (((Q ++ [z]).set k j).flatMap spCells))
  (hx : W.heap[x]? = some (.cells #[.slice (some ⟨g, 0, none⟩) m cap, .func (.func 108) #[] #[], .func (.func 109) #[] #[]] 170 (0, 0))) (hgx : x ≠ g) (hb : Below w0.heap.size w0 W) (hm : m = (Q ++ [z]).length) (hk : k = Q.length) (hown : W.ownsRow w0.heap.size 34 2 (.slice (some ⟨g, 0, none⟩) m cap) m ((Q ++ [z]).flatMap spCells)) (hxB : w0.heap.size ≤ x) :
  Mrg w0 x (Q ++ [j]) ((W.setCell ⟨g, k * 2, none⟩ (.string j.1)).setCell ⟨g, k * 2 + 1, none⟩ (.string j.2)) := by
 have hf := frm_cell (frm_cell (Frm.refl (fun b => b = g) W) (k * 2) (.string j.1)) (k * 2 + 1) (.string j.2)
 have e : (Q ++ [z]).set k j = Q ++ [j] := by rw [hk, List.set_append_right _ _ (Nat.le_refl _)]; simp
 rw [e] at hp
 have hl : (Q ++ [j]).length = m := by rw [hm]; simp
 have hg := (hown.lt g rfl).1
 refine ⟨_, heap_to hx hf hgx, by rw [hl]; exact hp, hb.trans (hf.below hb.size fun k hk => by rw [hk]; exact hg), hxB⟩
set_option maxRecDepth 10000 in
set_option maxHeartbeats 40000000 in
theorem mergerAdd_yes {w0 w : World} {x : Nat} {Q : List BSp} {z1 z2 : ByteArray} (h : Mrg w0 x (Q ++ [(z1, z2)]) w) (hO : ∀ z ∈ Q ++ [(z1, z2)], z.1.size ≤ 9000 ∧ z.2.size ≤ 9000) (hl : (Q ++ [(z1, z2)]).length ≤ 100000) (s : BSp) (hs : s.1.size ≤ 9000 ∧ s.2.size ≤ 9000) (hok : meetOk (dS (z1, z2)) (dS s) = true) (hD : Doors w0) :
  Calls Tryz.prog 110 #[.pointer (some ⟨x, 0, none⟩), .agg #[.string s.1, .string s.2]] w fun e w' => e = .returned (.tuple #[]) ∧ Mrg w0 x (Q ++ [jnV z1 z2 s.1 s.2]) w' := by
 obtain ⟨v, hx, hown, hbel, hxB⟩ := h
 obtain ⟨s1, s2⟩ := s
 have hs1 : s1.size ≤ 9000 := hs.1
 have hs2 : s2.size ≤ 9000 := hs.2
 obtain ⟨W0, hW0⟩ : ∃ W0, W0 = w.alloc (.cells #[.string s1, .string s2] 34) := ⟨_, rfl⟩
 obtain ⟨nb, hnb⟩ : ∃ nb, nb = w.heap.size := ⟨_, rfl⟩
 have hw : Below w.heap.size w W0 := by rw [hW0]; exact below_alloc1 _ _
 have hx0 := heap_below hw hx
 have hn0 : W0.heap[nb]? = some (.cells #[.string s1, .string s2] 34 (0, 0)) := by rw [hW0, hnb]; exact heap_new_at rfl
 have hown0 := ownsRow_below hown hw
 have hbel0 := hbel.trans (hw.mono hbel.size)
 obtain ⟨m, hm⟩ : ∃ m, m = (Q ++ [(z1, z2)]).length := ⟨_, rfl⟩
 obtain ⟨c0, c1, c2, f0, _, _⟩ := trip_cells hx0
 obtain ⟨b0, b1, _, _⟩ := pair_cells hn0
 have hne := apart_block hown0 hx0 (by decide)
 rw [← hm] at hown0 hl
 have hlow : ∀ j, v.ownBlock = some j → j < nb := fun j e => by rw [hnb]; exact (hown.lt j e).2
 clear hx hown hbel
 obtain ⟨k, hk⟩ : ∃ k, k = Q.length := ⟨_, rfl⟩
 have hmk : m = k + 1 := by rw [hm, hk]; simp
 obtain ⟨g, cap, rfl⟩ : ∃ g cap, v = .slice (some ⟨g, 0, none⟩) m cap := by
  rcases hown0.2 with ⟨h1, h2⟩ | ⟨g, cap, _, h1, _⟩
  ·omega
  ·exact ⟨_, cap, h1⟩
 have hz0 := own_sp hown0 k (by rw [hk]; simp)
 have ez : (Q ++ [(z1, z2)])[k]'(by rw [hk]; simp) = (z1, z2) := by simp [hk]
 rw [ez] at hz0
 have hzz := hO (z1, z2) (by simp)
 have hz1 : z1.size ≤ 9000 := hzz.1
 have hz2 : z2.size ≤ 9000 := hzz.2
 have hS : ∀ W, Below W0.heap.size W0 W → W.cell? ⟨x, 0, none⟩ = some (.slice (some ⟨g, 0, none⟩) m cap) ∧ W.cell? ⟨x, 1, none⟩ = some (.func (.func 108) #[] #[]) ∧ W.cell? ⟨x, 2, none⟩ = some (.func (.func 109) #[] #[]) ∧ W.cell? ⟨nb, 0, none⟩ = some (.string s1) ∧ W.cell? ⟨nb, 1, none⟩ = some (.string s2) ∧ W.cell? ⟨g, k * 2, none⟩ = some (.string z1) ∧ W.cell? ⟨g, k * 2 + 1, none⟩ = some (.string z2) := fun W hW =>
  ⟨cell_later hW c0, cell_later hW c1, cell_later hW c2, cell_later hW b0, cell_later hW b1, cell_later hW hz0.1, cell_later hW hz0.2⟩
 have hgx : x ≠ g := fun e => hne (by rw [e]; rfl)
 have hgn : nb ≠ g := fun e => by have := hlow g rfl; omega
 have hSt : ∀ W, Below W0.heap.size W0 W → ∀ p q, ((W.setCell ⟨g, k * 2, none⟩ p).setCell ⟨g, k * 2 + 1, none⟩ q).cell? ⟨x, 0, none⟩ = some (.slice (some ⟨g, 0, none⟩) m cap) ∧ ((W.setCell ⟨g, k * 2, none⟩ p).setCell ⟨g, k * 2 + 1, none⟩ q).cell? ⟨x, 2, none⟩ = some (.func (.func 109) #[] #[]) ∧ ((W.setCell ⟨g, k * 2, none⟩ p).setCell ⟨g, k * 2 + 1, none⟩ q).cell? ⟨nb, 0, none⟩ = some (.string s1) ∧ ((W.setCell ⟨g, k * 2, none⟩ p).setCell ⟨g, k * 2 + 1, none⟩ q).cell? ⟨nb, 1, none⟩ = some (.string s2) := fun W hW p q => by
  have hf := frm_cell (frm_cell (Frm.refl (fun b => b = g) W) (k * 2) p) (k * 2 + 1) q
  obtain ⟨t0, _, t2, _⟩ := trip_cells (heap_to (heap_below hW hx0) hf hgx)
  obtain ⟨u0, u1, _⟩ := pair_cells (heap_to (heap_below hW hn0) hf hgn)
  exact ⟨t0, t2, u0, u1⟩
 have hFz : ∀ W, Below W0.heap.size W0 W → W.frozen? ⟨g, k * 2, none⟩ = false ∧ W.frozen? ⟨g, k * 2 + 1, none⟩ = false := fun W hW => ⟨own_froz (ownsRow_below hown0 hW) _, own_froz (ownsRow_below hown0 hW) _⟩
 have hJ := fun (W : World) (k : Below W0.heap.size W0 W) => joins_any z1 z2 s1 s2 (by omega) (by omega) (by omega) (by omega) ((hD.from (Nat.le_refl _) hbel0).below k)
 have hK := fun (W : World) (k : Below W0.heap.size W0 W) => join_any z1 z2 s1 s2 (by omega) (by omega) (by omega) (by omega) ((hD.from (Nat.le_refl _) hbel0).below k)
 have hok2 : meetOk (z1.data.toList, z2.data.toList) (s1.data.toList, s2.data.toList) = true := hok
 rw [hok2] at hJ
 have hkl : (k : Int) < (m : Int) := by omega
 have k00 : (0 : Int) ≤ (k : Int) := by omega
 have kw : IntKind.i64.wrap ((m : Int) - 1) = (k : Int) := by rw [IntWalk.i64_in _ (by omega)]; omega
 have kp : (0 : Int) < (m : Int) := by omega
 have kn : 0 < m := by omega
 have kln : k < m := by omega
 have kt : decide ((0 : Int) < (m : Int)) = true := decide_eq_true kp
 clear hok hok2 hz0 ez
 obtain ⟨Hw, Hx0, Hn0, Hown0, Hbel0, Hne, HD, HO, Hlow, Hgx, Hgn, HS, HSt, HFz, HJ, HK⟩ := hd16 hw hx0 hn0 hown0 hbel0 hne hD hO hlow hgx hgn hS hSt hFz hJ hK; obtain ⟨Hm, Hk, Hzz, Hmk⟩ := hd4 hm hk hzz hmk; clear hw hx0 hn0 hown0 hbel0 hne hD hO hlow hgx hgn hS hSt hFz hJ hK hm hk hzz hmk
 go_enter Tryz.func110, Tryz.ntmps110
 go_upto_region 1 with (fail)
 rw [← hW0, ← hnb]
 clear hW0 hnb
 go_upto_region 2 with (fail)
 have mixed : Tryz.prog.follows .mixedOrders = true := by kernel_rfl
 have hbz := bel_drewN (Below.refl W0.heap.size W0) 1
 have hcz := HS.out _ hbz
 go_region_held3 (fun w' => w'.cell? ⟨x, 0, none⟩ = some (.slice (some ⟨g, 0, none⟩) m cap) ∧ w'.cell? ⟨x, 1, none⟩ = some (.func (.func 108) #[] #[]) ∧ w'.cell? ⟨x, 2, none⟩ = some (.func (.func 109) #[] #[]) ∧ w'.cell? ⟨nb, 0, none⟩ = some (.string s1) ∧ w'.cell? ⟨nb, 1, none⟩ = some (.string s2) ∧ w'.cell? ⟨g, k * 2, none⟩ = some (.string z1) ∧ w'.cell? ⟨g, k * 2 + 1, none⟩ = some (.string z2)) (first | exact hcz | go_keep) (first | (go_at_call 108; refine (HJ.out _ (by exact hbz)).mono ?_; rintro e wz ⟨rfl, hsz⟩; replace hbz := hbz.trans (hsz.mono hbz.size); replace hcz := HS.out _ hbz))
 go_upto_region 3 with (fail)
 have hbz0 := hbz
 replace hbz := Below.drew hbz
 obtain ⟨_, _, _, _, _, q5, q6⟩ := HS.out _ hbz0
 obtain ⟨_, _, _, _, _, q7, q8⟩ := HS.out _ hbz
 replace hcz : _ ∧ _ ∧ _ ∧ _ := ⟨(HS.out _ hbz).1, (HS.out _ hbz).2.2.1, (HS.out _ hbz).2.2.2.1, (HS.out _ hbz).2.2.2.2.1⟩
 refine wp_region_held_drew (S := fun w' => w'.cell? ⟨x, 0, none⟩ = some (.slice (some ⟨g, 0, none⟩) m cap) ∧ w'.cell? ⟨x, 2, none⟩ = some (.func (.func 109) #[] #[]) ∧ w'.cell? ⟨nb, 0, none⟩ = some (.string s1) ∧ w'.cell? ⟨nb, 1, none⟩ = some (.string s2)) (by kernel_rfl) (by exact hcz) (fun hHeld => ?_)
 refine wpAnyH_take (i := 0) (v := ?_) rfl (by kernel_rfl) (by kernel_rfl) (by kernel_rfl) (fun _ _ _ h => h) (Or.inl ⟨by kernel_rfl, ?_⟩) (by assumption) ?_
 rotate_left
 ·(intro w hSw; (try dsimp only at hSw); go_simp; try with_reducible rfl)
 try simp only [Act.put, List.setIfInBounds_toArray, List.set_cons_zero, List.set_cons_succ]
 refine wpAnyH_take (i := 1) (v := ?_) rfl (by kernel_rfl) (by kernel_rfl) (by kernel_rfl) (fun _ _ _ h => h) (Or.inl ⟨by kernel_rfl, ?_⟩) (by assumption) ?_
 rotate_left
 ·(intro w hSw; (try dsimp only at hSw); go_simp; try with_reducible rfl)
 try simp only [Act.put, List.setIfInBounds_toArray, List.set_cons_zero, List.set_cons_succ]
 refine wpAnyH_take (i := 2) (v := ?_) rfl (by kernel_rfl) (by kernel_rfl) (by kernel_rfl) (fun _ _ _ h => h) (Or.inl ⟨by kernel_rfl, ?_⟩) (by assumption) ?_
 rotate_left
 ·(intro w hSw; (try dsimp only at hSw); go_simp; try with_reducible rfl)
 try simp only [Act.put, List.setIfInBounds_toArray, List.set_cons_zero, List.set_cons_succ]
 refine wpAnyH_take (i := 3) (v := ?_) rfl (by kernel_rfl) (by kernel_rfl) (by kernel_rfl) (fun _ _ _ h => h) (Or.inl ⟨by kernel_rfl, ?_⟩) (by assumption) ?_
 rotate_left
 ·(intro w hSw; (try dsimp only at hSw); go_simp; try with_reducible rfl)
 try simp only [Act.put, List.setIfInBounds_toArray, List.set_cons_zero, List.set_cons_succ]
 refine wpAnyH_take (i := 4) (v := ?_) rfl (by kernel_rfl) (by kernel_rfl) (by kernel_rfl) (fun _ _ _ h => h) (Or.inl ⟨by kernel_rfl, ?_⟩) (by assumption) ?_
 rotate_left
 ·(intro w hSw; (try dsimp only at hSw); go_simp; try with_reducible rfl)
 try simp only [Act.put, List.setIfInBounds_toArray, List.set_cons_zero, List.set_cons_succ]
 refine wpAnyH_take (i := 5) (v := ?_) rfl (by kernel_rfl) (by kernel_rfl) (by kernel_rfl) (fun _ _ _ h => h) (Or.inl ⟨by kernel_rfl, ?_⟩) (by assumption) ?_
 rotate_left
 ·(intro w hSw; (try dsimp only at hSw); go_simp; try with_reducible rfl)
 try simp only [Act.put, List.setIfInBounds_toArray, List.set_cons_zero, List.set_cons_succ]
 refine wpAnyH_take (i := 6) (v := ?_) rfl (by kernel_rfl) (by kernel_rfl) (by kernel_rfl) (fun _ _ _ h => h) (Or.inl ⟨by kernel_rfl, ?_⟩) (by assumption) ?_
 rotate_left
 ·(intro w hSw; (try dsimp only at hSw); go_simp; try with_reducible rfl)
 try simp only [Act.put, List.setIfInBounds_toArray, List.set_cons_zero, List.set_cons_succ]
 refine wpAnyH_take (i := 7) (v := ?_) rfl (by kernel_rfl) (by kernel_rfl) (by kernel_rfl) (fun _ _ _ h => h) (Or.inl ⟨by kernel_rfl, ?_⟩) (by assumption) ?_
 rotate_left
 ·(intro w hSw; (try dsimp only at hSw); go_simp; try with_reducible rfl)
 try simp only [Act.put, List.setIfInBounds_toArray, List.set_cons_zero, List.set_cons_succ]
 refine wpAnyH_take (i := 8) (v := ?_) rfl (by kernel_rfl) (by kernel_rfl) (by kernel_rfl) (fun _ _ _ h => h) (Or.inl ⟨by kernel_rfl, ?_⟩) (by assumption) ?_
 rotate_left
 ·(intro w hSw; (try dsimp only at hSw); go_simp; try with_reducible rfl)
 try simp only [Act.put, List.setIfInBounds_toArray, List.set_cons_zero, List.set_cons_succ]
 refine wpAnyH_take (i := 9) (v := ?_) rfl (by kernel_rfl) (by kernel_rfl) (by kernel_rfl) (fun _ _ _ h => h) (Or.inl ⟨by kernel_rfl, ?_⟩) (by assumption) ?_
 rotate_left
 ·(intro w hSw; (try dsimp only at hSw); go_simp; try with_reducible rfl)
 try simp only [Act.put, List.setIfInBounds_toArray, List.set_cons_zero, List.set_cons_succ]
 refine wpAnyH_take (i := 10) (v := ?_) rfl (by kernel_rfl) (by kernel_rfl) (by kernel_rfl) (fun _ _ _ h => h) (Or.inl ⟨by kernel_rfl, ?_⟩) (by assumption) ?_
 rotate_left
 ·(intro w hSw; (try dsimp only at hSw); go_simp; try with_reducible rfl)
 try simp only [Act.put, List.setIfInBounds_toArray, List.set_cons_zero, List.set_cons_succ]
 refine wpAnyH_take (i := 11) (v := ?_) rfl (by kernel_rfl) (by kernel_rfl) (by kernel_rfl) (fun _ _ _ h => h) (Or.inl ⟨by kernel_rfl, ?_⟩) (by assumption) ?_
 rotate_left
 ·(intro w hSw; (try dsimp only at hSw); go_simp; try with_reducible rfl)
 try simp only [Act.put, List.setIfInBounds_toArray, List.set_cons_zero, List.set_cons_succ]
 refine wpAnyH_take (i := 12) (v := ?_) rfl (by kernel_rfl) (by kernel_rfl) (by kernel_rfl) (fun _ _ _ h => h) (Or.inl ⟨by kernel_rfl, ?_⟩) (by assumption) ?_
 rotate_left
 ·(intro w hSw; (try dsimp only at hSw); go_simp; try with_reducible rfl)
 try simp only [Act.put, List.setIfInBounds_toArray, List.set_cons_zero, List.set_cons_succ]
 refine wpAnyH_take (i := 13) (v := ?_) rfl (by kernel_rfl) (by kernel_rfl) (by kernel_rfl) (fun _ _ _ h => h) (Or.inl ⟨by kernel_rfl, ?_⟩) (by assumption) ?_
 rotate_left
 ·(intro w hSw; (try dsimp only at hSw); go_simp; try with_reducible rfl)
 try simp only [Act.put, List.setIfInBounds_toArray, List.set_cons_zero, List.set_cons_succ]
 refine wpAnyH_take (i := 14) (v := ?_) rfl (by kernel_rfl) (by kernel_rfl) (by kernel_rfl) (fun _ _ _ h => h) (Or.inl ⟨by kernel_rfl, ?_⟩) (by assumption) ?_
 rotate_left
 ·(intro w hSw; (try dsimp only at hSw); go_simp; try with_reducible rfl)
 try simp only [Act.put, List.setIfInBounds_toArray, List.set_cons_zero, List.set_cons_succ]
 refine wpAnyH_take (i := 15) (v := ?_) rfl (by kernel_rfl) (by kernel_rfl) (by kernel_rfl) (fun _ _ _ h => h) (Or.inl ⟨by kernel_rfl, ?_⟩) (by assumption) ?_
 rotate_left
 ·(intro w hSw; (try dsimp only at hSw); go_simp; try with_reducible rfl)
 try simp only [Act.put, List.setIfInBounds_toArray, List.set_cons_zero, List.set_cons_succ]
 refine wpAnyH_take (i := 16) (v := ?_) rfl (by kernel_rfl) (by kernel_rfl) (by kernel_rfl) (fun _ _ _ h => h) (Or.inl ⟨by kernel_rfl, ?_⟩) (by assumption) ?_
 rotate_left
 ·(intro w hSw; (try dsimp only at hSw); go_simp; try with_reducible rfl)
 try simp only [Act.put, List.setIfInBounds_toArray, List.set_cons_zero, List.set_cons_succ]
 refine wpAnyH_take (i := 18) (v := ?_) rfl (by kernel_rfl) (by kernel_rfl) (by kernel_rfl) (fun _ _ _ h => h) (Or.inl ⟨by kernel_rfl, ?_⟩) (by assumption) ?_
 rotate_left
 ·(intro w hSw; (try dsimp only at hSw); go_simp; try with_reducible rfl)
 try simp only [Act.put, List.setIfInBounds_toArray, List.set_cons_zero, List.set_cons_succ]
 refine wpAnyH_ready (rs := [17]) (by kernel_rfl) (by simp) ?_
 refine AllReadyH.cons rfl (fun K hK => ?_) AllReadyH.nil
 go_simp
 refine hK.out _ _ (by exact hcz) (fun hHeld => ?_)
 clear hK K
 try simp only [Act.put, List.setIfInBounds_toArray, List.set_cons_zero, List.set_cons_succ]
 refine wpAnyH_ready (rs := [19]) (by kernel_rfl) (by simp) ?_
 refine AllReadyH.cons rfl (fun K hK => ?_) AllReadyH.nil
 go_simp
 refine (HK.out _ (by exact hbz)).mono ?_
 rintro e wy ⟨rfl, hsz2⟩
 replace hbz := hbz.trans (hsz2.mono hbz.size)
 replace hcz : _ ∧ _ ∧ _ ∧ _ := ⟨(HS.out _ hbz).1, (HS.out _ hbz).2.2.1, (HS.out _ hbz).2.2.2.1, (HS.out _ hbz).2.2.2.2.1⟩
 have fz0 := (HFz.out _ hbz).1
 have fz1 := (HFz.out _ hbz).2
 have r5 := (HS.out _ hbz).2.2.2.2.2.1
 have r6 := (HS.out _ hbz).2.2.2.2.2.2
 clear hHeld
 go_wp2_with fail
 refine hK.out _ _ (by exact hcz) (fun hHeld => ?_)
 clear hK K
 try simp only [Act.put, List.setIfInBounds_toArray, List.set_cons_zero, List.set_cons_succ]
 refine wpAnyH_take (i := 20) (v := ?_) rfl (by kernel_rfl) (by kernel_rfl) (by kernel_rfl) (fun _ _ _ h => h) (Or.inl ⟨by kernel_rfl, ?_⟩) (by assumption) ?_
 rotate_left
 ·(intro w hSw; (try dsimp only at hSw); go_simp; try with_reducible rfl)
 try simp only [Act.put, List.setIfInBounds_toArray, List.set_cons_zero, List.set_cons_succ]
 refine wpAnyH_ready (rs := [21]) (by kernel_rfl) (by simp) ?_
 refine AllReadyH.cons rfl (fun K hK => ?_) AllReadyH.nil
 go_simp
 refine hK.out _ _ (by exact HSt.out _ hbz _ _) (fun hHeld => ?_)
 clear hK K
 try simp only [Act.put, List.setIfInBounds_toArray, List.set_cons_zero, List.set_cons_succ]
 refine wpAnyH_done (by kernel_rfl) ?_ _
 go_simp
 go_wp2_with fail
 refine bodyPost_ret (v := .tuple #[]) (results_none rfl _ _ _) rfl ?_
 have hp := own_sp_put (ownsRow_below Hown0.out hbz) (by rw [← Hm.out]) (i := k) kln (jnV z1 z2 s1 s2)
 exact ⟨rfl, mrg_put hp (heap_below hbz Hx0.out) Hgx.out (Hbel0.out.trans (hbz.mono Hbel0.out.size)) Hm.out Hk.out (ownsRow_below Hown0.out hbz) hxB⟩
theorem mergerAdd_any {w0 w : World} {x : Nat} {O : List BSp} (h : Mrg w0 x O w) (hO : ∀ z ∈ O, z.1.size ≤ 9000 ∧ z.2.size ≤ 9000) (hl : O.length ≤ 100000) (s : BSp) (hs : s.1.size ≤ 9000 ∧ s.2.size ≤ 9000) (hD : Doors w0) :
  Calls Tryz.prog 110 #[.pointer (some ⟨x, 0, none⟩), .agg #[.string s.1, .string s.2]] w fun e w' => e = .returned (.tuple #[]) ∧ Mrg w0 x (addB O s) w' := by
 rcases List.eq_nil_or_concat O with rfl | ⟨Q, z, rfl⟩
 ·exact mergerAdd_nil h s hs hD
 ·rw [List.concat_eq_append] at *
  rw [addB_snoc]
  obtain ⟨z1, z2⟩ := z
  cases hok : meetOk (dS (z1, z2)) (dS s) with
  | true => rw [if_pos rfl]; exact mergerAdd_yes h hO hl s hs hok hD
  | false => rw [if_neg (by simp)]; exact mergerAdd_no h hO hl s hs hok hD
end Go.Proofs.YteailgjiifdgcaaGreatDoor

/- Plain facts: the place of the first element of which a predicate holds. No condition. -/
namespace Go.Proofs.YteailgjiifdgcaaGreatDoor

def idxOf {α : Type} (p : α → Bool) (l : List α) : Int := match l.findIdx? p with
 | some i => i
 | none => -1
def NoneIn {α : Type} (p : α → Bool) (l : List α) (k : Nat) : Prop := ∀ i (h : i < l.length), i < k → p l[i] = false
theorem noneIn_zero {α : Type} (p : α → Bool) (l : List α) : NoneIn p l 0 := fun _ _ h => by omega
theorem noneIn_succ {α : Type} {p : α → Bool} {l : List α} {k : Nat} (h : k < l.length) (hn : NoneIn p l k) (hk : p l[k] = false) : NoneIn p l (k + 1) := fun i hi hik => by
 by_cases e : i = k
 ·subst e; exact hk
 ·exact hn i hi (by omega)
theorem idxOf_at {α : Type} {p : α → Bool} {l : List α} {k : Nat} (h : k < l.length) (hn : NoneIn p l k) (hk : p l[k] = true) : idxOf p l = k := by
 have : l.findIdx? p = some k := by
  rw [List.findIdx?_eq_some_iff_getElem]
  exact ⟨h, hk, fun j hj => by simpa using hn j (by omega) hj⟩
 unfold idxOf; rw [this]
theorem idxOf_none {α : Type} {p : α → Bool} {l : List α} {k : Nat} (h : l.length ≤ k) (hn : NoneIn p l k) : idxOf p l = -1 := by
 have : l.findIdx? p = none := by
  rw [List.findIdx?_eq_none_iff]
  intro x hx
  obtain ⟨i, hi, e⟩ := List.mem_iff_getElem.1 hx
  rw [← e]; exact hn i hi (by omega)
 unfold idxOf; rw [this]
theorem idxOf_any {α : Type} (p : α → Bool) (l : List α) : l.any p = true ↔ 0 ≤ idxOf p l := by
 unfold idxOf
 cases h : l.findIdx? p with
 | none =>
  rw [List.findIdx?_eq_none_iff] at h
  simp only [List.any_eq_true]
  constructor
  ·rintro ⟨x, hx, hp⟩; rw [h x hx] at hp; cases hp
  ·intro h2; omega
 | some i =>
  rw [List.findIdx?_eq_some_iff_getElem] at h
  obtain ⟨hi, hp, _⟩ := h
  simp only [List.any_eq_true]
  exact ⟨fun _ => by omega, fun _ => ⟨l[i], List.getElem_mem hi, hp⟩⟩
end Go.Proofs.YteailgjiifdgcaaGreatDoor

/- The walks of slices.IndexFunc and slices.ContainsFunc at Span: the first element of which a predicate holds; whether it holds of one. Condition: what the predicate gives is read off its contract. -/
namespace Go.Proofs.YteailgjiifdgcaaGreatDoor
open Go.RowKit
namespace IdxSpan
theorem cells_2 {ecs : List Value} (h : ecs.length = 2) : ∃ u0 u1, ecs = [u0, u1] := by
 match ecs, h with
 | [u0, u1], _ => exact ⟨u0, u1, rfl⟩

def Pred {α : Type} (R : Rd α) (p : α → Bool) (g : Nat) (cb : Array Value) (l : List α) (w : World) : Prop :=
 ∀ W u0 u1 x, Below w.heap.size w W → x ∈ l → R W [u0, u1] x → Calls Tryz.prog g (#[.agg #[u0, u1]] ++ cb) W fun e w' => e = .returned (.bool (p x)) ∧ Below W.heap.size W w'
set_option maxRecDepth 10000 in
set_option maxHeartbeats 400000 in
theorem idx_any {α : Type} {R : Rd α} (hR : Stays R) (p : α → Bool) (g : Nat) (cb : Array Value) (eg : ∀ args w, (callFunc g args).run Tryz.prog w = .ok (.enter g args) w) {w : World} {v : Value} {l : List α} (hl : RSlice 2 R w [v] l) (hp : Pred R p g cb l w) :
  Calls Tryz.prog 123 #[v, .func (.func g) #[] cb] w fun e w' => e = .returned (.int .i64 (idxOf p l)) ∧ Below w.heap.size w w' := by
 obtain ⟨a, cap, hv, hcap, hmax, hel⟩ := hl
 simp only [List.cons.injEq, and_true] at hv
 subst hv
 unfold maxLen at hmax
 obtain ⟨n, hn⟩ : ∃ n, n = l.length := ⟨_, rfl⟩
 rw [← hn] at hcap ⊢
 have hn63 : n ≤ 9223372036854775807 := by omega
 obtain ⟨Hn, Hel, Hp⟩ := hd3 hn hel hp; clear hn hel hp
 go_enter Tryz.func123, Tryz.ntmps123
 go_wp2_with fail
 go_loopw [8] (fun i wr => ∃ k : Nat, k ≤ n ∧ i = .int .i64 k ∧ NoneIn p l k ∧ Below w.heap.size w wr) (fun i _ => n - (intOf i).toNat)
 case atStart => exact ⟨0, Nat.zero_le _, rfl, noneIn_zero p l, Below.refl _ _⟩
 case round =>
  obtain ⟨k, hk, rfl, hno, hb⟩ := hrel
  by_cases hlt : k < n
  ·have hkl : k < l.length := by have := Hn.out; omega
   obtain ⟨x, hx⟩ : ∃ x, x = l[k]'hkl := ⟨_, rfl⟩
   obtain ⟨b, off, ecs, rfl, h4, h5, h6⟩ := Hel.out k x (by rw [hx]; exact List.getElem?_eq_getElem hkl)
   obtain ⟨u0, u1, rfl⟩ : ∃ u0 u1, ecs = [u0, u1] := cells_2 h4
   have hxl : x ∈ l := by rw [hx]; exact List.getElem_mem hkl
   have c0 : wr.cell? ⟨b, off + k * 2, none⟩ = some u0 := cell_later hb (by simpa using h5 0 u0 rfl)
   have c1 : wr.cell? ⟨b, off + k * 2 + 1, none⟩ = some u1 := cell_later hb (by simpa using h5 1 u1 rfl)
   have hcall := Hp.out wr u0 u1 x hb hxl (hR _ _ _ _ h6 hb)
   have q0 : (0 : Int) ≤ (k : Int) := by omega
   have q1 : (k : Int) < (n : Int) := by omega
   by_cases hpx : p x = true
   ·rw [hpx] at hcall
    have hi : idxOf p l = k := idxOf_at hkl hno (by rw [← hx]; exact hpx)
    obtain ⟨Hx, Hno, Hcall, H5, H6, Hpx, Hi, Hb, Hxl⟩ := hd9 hx hno hcall h5 h6 hpx hi hb hxl; clear hx hno hcall h5 h6 hpx hi hb hxl
    clear h4
    go_wp2_with fail
    refine Hcall.out.mono ?_
    rintro e w2 ⟨rfl, hb2⟩
    have hb3 := Hb.out.trans (hb2.mono Hb.out.size)
    obtain ⟨Hb2, Hb3⟩ := hd2 hb2 hb3; clear hb2 hb3
    go_wp2_with fail
    go_ret
    exact ⟨ret_int Hi.out.symm, Hb3.out⟩
   ·have hpx' : p x = false := by simpa using hpx
    rw [hpx'] at hcall
    have hno2 := noneIn_succ hkl hno (by rw [← hx]; exact hpx')
    obtain ⟨Hx, Hno, Hcall, H5, H6, Hpx, Hpx', Hno2, Hb, Hxl⟩ := hd10 hx hno hcall h5 h6 hpx hpx' hno2 hb hxl; clear hx hno hcall h5 h6 hpx hpx' hno2 hb hxl
    clear h4
    go_wp2_with fail
    refine Hcall.out.mono ?_
    rintro e w2 ⟨rfl, hb2⟩
    have hb3 := Hb.out.trans (hb2.mono Hb.out.size)
    obtain ⟨Hb2, Hb3⟩ := hd2 hb2 hb3; clear hb2 hb3
    go_wp2_with fail
    go_roundw
    case rel => exact ⟨k + 1, by omega, by go_num, Hno2.out, Hb3.out⟩
    case measure => simp [intOf]; omega
  ·have hi : idxOf p l = -1 := idxOf_none (by have := Hn.out; omega) hno
   obtain ⟨Hno, Hi, Hb⟩ := hd3 hno hi hb; clear hno hi hb
   go_wp2_with fail
   go_ret
   exact ⟨ret_int Hi.out.symm, Hb.out⟩
set_option maxRecDepth 10000 in
set_option maxHeartbeats 400000 in
theorem has_any {α : Type} {R : Rd α} (hR : Stays R) (p : α → Bool) (g : Nat) (cb : Array Value) (eg : ∀ args w, (callFunc g args).run Tryz.prog w = .ok (.enter g args) w) {w : World} {v : Value} {l : List α} (hl : RSlice 2 R w [v] l) (hp : Pred R p g cb l w) :
  Calls Tryz.prog 66 #[v, .func (.func g) #[] cb] w fun e w' => e = .returned (.bool (l.any p)) ∧ Below w.heap.size w w' := by
 have hI := idx_any hR p g cb eg hl hp
 have hab := idxOf_any p l
 obtain ⟨i, hi⟩ : ∃ i, i = idxOf p l := ⟨_, rfl⟩
 rw [← hi] at hI hab
 obtain ⟨Hl, Hp, HI, Hi, HR⟩ := hd5 hl hp hI hi hR; clear hl hp hI hi hR
 cases hq : l.any p with
 | true =>
  have hpos : 0 ≤ i := hab.1 hq
  obtain ⟨Hq, Hab⟩ := hd2 hq hab; clear hq hab
  go_enter Tryz.func66, Tryz.ntmps66
  go_wp2_with fail
  refine HI.out.mono ?_
  rintro e w2 ⟨rfl, hb2⟩
  have Hb2 := hd hb2; clear hb2
  go_wp2_with fail
  go_ret
  exact ⟨rfl, Hb2.out⟩
 | false =>
  have hneg : i < 0 := by
   rcases Int.lt_or_le i 0 with h | h
   ·exact h
   ·have := hab.2 h; rw [hq] at this; cases this
  obtain ⟨Hq, Hab⟩ := hd2 hq hab; clear hq hab
  go_enter Tryz.func66, Tryz.ntmps66
  go_wp2_with fail
  refine HI.out.mono ?_
  rintro e w2 ⟨rfl, hb2⟩
  have Hb2 := hd hb2; clear hb2
  go_wp2_with fail
  go_ret
  exact ⟨ret_bool (by simpa using hneg), Hb2.out⟩
end IdxSpan
end Go.Proofs.YteailgjiifdgcaaGreatDoor

/- The walks of slices.SortStableFunc at api.Span: the row and its elements. Printed by gen_stc.py. -/
namespace Go.Proofs.YteailgjiifdgcaaGreatDoor
open Go.Shelf Go.RowKit Go.Lib Go.Sort SortM StbA StbB
namespace StbSpan
variable {α : Type} {f0 : α → ByteArray} {f1 : α → ByteArray} {w0 : World} {blk off : Nat} {d0 : Array α}
def enc (f0 : α → ByteArray) (f1 : α → ByteArray) (x : α) : List Value := [.string (f0 x), .string (f1 x)]
theorem enc_len : ∀ x, (enc f0 f1 x).length = 2 := fun _ => rfl
def CmpLays (P : Program) (g : Nat) (cb : Array Value) (f : α → List Value) (_k : Nat) (cf : α → α → Int) (blk _off _size : Nat) (w : World) : Prop :=
 ∀ W, Frm (fun b => b = blk) w W → ∀ x y : α, Calls P g (#[.agg (f x).toArray, .agg (f y).toArray] ++ cb) W fun e w' => e = .returned (.int .i64 (cf x y)) ∧ Below W.heap.size W w'
variable [Inhabited α]
abbrev SWK (f : α → List Value) (k : Nat) (w0 : World) (blk off : Nat) (d : Array α) (W : World) : Prop := SortR.SRW 34 f k w0 blk off d W
abbrev RowK (f : α → List Value) (k : Nat) (w0 : World) (blk off : Nat) (d : Array α) : Prop := SWK f k w0 blk off d w0
theorem cells {dk : Array α} {W : World} (S : SWK (enc f0 f1) 2 w0 blk off dk W) (_R : RowK (enc f0 f1) 2 w0 blk off d0) (_hs : dk.size = d0.size) (i : Nat) (hi : i < dk.size) :
  W.cell? ⟨blk, off + i * 2, none⟩ = some (.string (f0 dk[i]!)) ∧ W.frozen? ⟨blk, off + i * 2, none⟩ = false ∧ W.cell? ⟨blk, off + i * 2 + 1, none⟩ = some (.string (f1 dk[i]!)) ∧ W.frozen? ⟨blk, off + i * 2 + 1, none⟩ = false := by
 have h0 := S.cell hi (show 0 < 2 by decide) rfl
 rw [Nat.add_zero] at h0
 have h1 := S.cell hi (show 1 < 2 by decide) rfl
 rw [← Nat.add_assoc] at h1
 exact ⟨h0.1, h0.2, h1.1, h1.2⟩
theorem exch {dk : Array α} {W : World} (S : SWK (enc f0 f1) 2 w0 blk off dk W) (_R : RowK (enc f0 f1) 2 w0 blk off d0) (i j : Nat) (hi : i < dk.size) (hj : j < dk.size) :
  SWK (enc f0 f1) 2 w0 blk off (swp dk i j) (((((W).setCell ⟨blk, off + i * 2, none⟩ (.string (f0 dk[j]!))).setCell ⟨blk, off + i * 2 + 1, none⟩ (.string (f1 dk[j]!))).setCell ⟨blk, off + j * 2, none⟩ (.string (f0 dk[i]!))).setCell ⟨blk, off + j * 2 + 1, none⟩ (.string (f1 dk[i]!))).drew := by
 have h := (SortR.SRW.exch S enc_len hi hj).drew
 exact h
end StbSpan
end Go.Proofs.YteailgjiifdgcaaGreatDoor

/- The walks of slices.SortStableFunc at api.Span: swapRangeCmpFunc: two runs are exchanged. Printed by gen_stc.py. -/
namespace Go.Proofs.YteailgjiifdgcaaGreatDoor
open Go.Shelf Go.RowKit Go.Lib Go.Sort SortM StbA StbB
namespace StbSpan
variable {α : Type} [Inhabited α] {f0 : α → ByteArray} {f1 : α → ByteArray} {w0 : World} {blk off : Nat} {d0 : Array α}
set_option maxRecDepth 10000 in
set_option maxHeartbeats 4000000 in
theorem swapRange_any {d : Array α} {w : World} (R : RowK (enc f0 f1) 2 w0 blk off d0) (hs : d.size = d0.size) (S : SWK (enc f0 f1) 2 w0 blk off d w) (a b m cap : Nat) (hab : a + m ≤ b) (hb : b + m ≤ d0.size) (hn : d0.size ≤ 1000000) (cv : Value) :
  Calls Tryz.prog 222 #[.slice (some ⟨blk, off, none⟩) d0.size cap, .int .i64 a, .int .i64 b, .int .i64 m, cv] w fun e w' => e = .returned (.tuple #[]) ∧ SWK (enc f0 f1) 2 w0 blk off (swr d a b m) w' := by
 have hlen := size_swr d a b
 obtain ⟨N, hN⟩ : ∃ N, N = d0.size := ⟨_, rfl⟩
 rw [← hN] at hb hn hs ⊢
 obtain ⟨HS, Hlen⟩ := hd2 S hlen; clear S hlen
 go_enter Tryz.func222, Tryz.ntmps222
 go_wp2_with fail
 go_loopw [10] (fun i wr => ∃ k : Nat, k ≤ m ∧ i = .int .i64 k ∧ SWK (enc f0 f1) 2 w0 blk off (swr d a b k) wr) (fun i _ => m - (intOf i).toNat)
 case atStart => exact ⟨0, Nat.zero_le _, rfl, HS.out⟩
 case round =>
  obtain ⟨k, hk, rfl, S⟩ := hrel
  by_cases hlt : k < m
  ·have hl := Hlen.out k
   obtain ⟨dk, hdk⟩ : ∃ dk, dk = swr d a b k := ⟨_, rfl⟩
   rw [← hdk] at S hl
   have hnx : swr d a b (k + 1) = swp dk (a + k) (b + k) := by rw [swr, ← hdk]
   have hEX := exch S R (a + k) (b + k) (by omega) (by omega)
   obtain ⟨p0, pf0, p1, pf1⟩ := cells S R (by omega) (a + k) (by omega)
   obtain ⟨q0, qf0, q1, qf1⟩ := cells S R (by omega) (b + k) (by omega)
   obtain ⟨x, hx⟩ : ∃ x, x = dk[a + k]! := ⟨_, rfl⟩
   obtain ⟨y, hy⟩ : ∃ y, y = dk[b + k]! := ⟨_, rfl⟩
   rw [← hx] at p0 p1 hEX
   rw [← hy] at q0 q1 hEX
   obtain ⟨x0, hx0⟩ : ∃ v, v = f0 x := ⟨_, rfl⟩
   obtain ⟨y0, hy0⟩ : ∃ v, v = f0 y := ⟨_, rfl⟩
   rw [← hx0] at p0 hEX
   rw [← hy0] at q0 hEX
   obtain ⟨x1, hx1⟩ : ∃ v, v = f1 x := ⟨_, rfl⟩
   obtain ⟨y1, hy1⟩ : ∃ v, v = f1 y := ⟨_, rfl⟩
   rw [← hx1] at p1 hEX
   rw [← hy1] at q1 hEX
   have na00 : ¬ off + (a + k) * 2 = off + (b + k) * 2 := by omega
   have nb00 : ¬ off + (b + k) * 2 = off + (a + k) * 2 := by omega
   have na01 : ¬ off + (a + k) * 2 = off + (b + k) * 2 + 1 := by omega
   have nb01 : ¬ off + (b + k) * 2 = off + (a + k) * 2 + 1 := by omega
   have na10 : ¬ off + (a + k) * 2 + 1 = off + (b + k) * 2 := by omega
   have nb10 : ¬ off + (b + k) * 2 + 1 = off + (a + k) * 2 := by omega
   have na11 : ¬ off + (a + k) * 2 + 1 = off + (b + k) * 2 + 1 := by omega
   have nb11 : ¬ off + (b + k) * 2 + 1 = off + (a + k) * 2 + 1 := by omega
   have w1 : IntKind.i64.wrap ((a : Int) + (k : Int)) = (a : Int) + (k : Int) := IntWalk.i64_in _ (by omega)
   have w2 : IntKind.i64.wrap ((b : Int) + (k : Int)) = (b : Int) + (k : Int) := IntWalk.i64_in _ (by omega)
   have n1 : ((a : Int) + (k : Int)).toNat = a + k := by omega
   have n2 : ((b : Int) + (k : Int)).toNat = b + k := by omega
   have u1 : (0 : Int) ≤ (a : Int) + (k : Int) := by omega
   have u2 : (0 : Int) ≤ (b : Int) + (k : Int) := by omega
   have v1 : (a : Int) + (k : Int) < (N : Int) := by omega
   have v2 : (b : Int) + (k : Int) < (N : Int) := by omega
   rw [← hnx] at hEX
   clear S
   obtain ⟨Hdk, Hnx, Hl, Hx, Hy, Hx0, Hy0, Hx1, Hy1, HEX⟩ := hd10 hdk hnx hl hx hy hx0 hy0 hx1 hy1 hEX; clear hdk hnx hl hx hy hx0 hy0 hx1 hy1 hEX
   go_wp2_with fail
   go_region
   all_goals
    go_wp2_with fail
    go_roundw
    case rel => exact ⟨k + 1, by omega, by go_num, HEX.out⟩
    case measure => simp [intOf]; omega
  ·obtain rfl : k = m := by omega
   have HS := hd S; clear S
   go_wp2_with fail
   go_end0
   exact ⟨rfl, HS.out⟩
end StbSpan
end Go.Proofs.YteailgjiifdgcaaGreatDoor

/- The walks of slices.SortStableFunc at api.Span: rotateCmpFunc: two runs are turned about. Printed by gen_stc.py. -/
namespace Go.Proofs.YteailgjiifdgcaaGreatDoor
open Go.Shelf Go.RowKit Go.Lib Go.Sort SortM StbA StbB
namespace StbSpan
variable {α : Type} [Inhabited α] {f0 : α → ByteArray} {f1 : α → ByteArray} {w0 : World} {blk off : Nat} {d0 : Array α}
def Now (f : α → List Value) (k : Nat) (w0 : World) (blk off : Nat) (l : List α) (e : Ending) (w' : World) : Prop := e = .returned (.tuple #[]) ∧ ∃ d : Array α, SWK f k w0 blk off d w' ∧ d.toList = l
set_option maxRecDepth 10000 in
set_option maxHeartbeats 4000000 in
theorem rotate_any {d : Array α} {w : World} (R : RowK (enc f0 f1) 2 w0 blk off d0) (S : SWK (enc f0 f1) 2 w0 blk off d w) {p u v q : List α} (hd : d.toList = p ++ u ++ v ++ q) (hs : d.size = d0.size) {a m b : Nat} (ha : a = p.length) (hm : m = a + u.length) (hb : b = m + v.length) (hu : 0 < u.length) (hv : 0 < v.length) (cap : Nat) (hn : d0.size ≤ 1000000) (cv : Value) :
  Calls Tryz.prog 212 #[.slice (some ⟨blk, off, none⟩) d0.size cap, .int .i64 a, .int .i64 m, .int .i64 b, cv] w (Now (enc f0 f1) 2 w0 blk off (p ++ v ++ u ++ q)) := by
 have hst := RInv.start hd (m := m) (i := u.length) (j := v.length) rfl rfl (by omega)
 have htl : (p ++ v ++ u ++ q).length = d0.size := by rw [← hs, ← hst.size]
 have hle := hst.le
 obtain ⟨iu, hiu⟩ : ∃ n, n = u.length := ⟨_, rfl⟩
 obtain ⟨jv, hjv⟩ : ∃ n, n = v.length := ⟨_, rfl⟩
 obtain ⟨tgt, htg⟩ : ∃ l, l = p ++ v ++ u ++ q := ⟨_, rfl⟩
 rw [← htg] at hst htl ⊢
 rw [← hiu] at hst hm hu hle
 rw [← hjv] at hst hb hv hle
 have hC := fun (dk : Array α) (wr : World) (hs : dk.size = d0.size) (S : SWK (enc f0 f1) 2 w0 blk off dk wr) (a b m : Nat) (h1 : a + m ≤ b) (h2 : b + m ≤ d0.size) => swapRange_any R hs S a b m cap h1 h2 hn cv
 obtain ⟨N, hN⟩ : ∃ N, N = d0.size := ⟨_, rfl⟩
 rw [← hN] at hn htl hs hC ⊢
 have i1 : IntKind.i64.wrap ((m : Int) - (a : Int)) = (iu : Int) := by rw [IntWalk.i64_in _ (by omega)]; omega
 have i2 : IntKind.i64.wrap ((b : Int) - (m : Int)) = (jv : Int) := by rw [IntWalk.i64_in _ (by omega)]; omega
 clear hd ha hm hb hle
 obtain ⟨Hst, HS, HC, Htl, Htg, Hiu, Hjv, HN⟩ := hd8 hst S hC htl htg hiu hjv hN; clear hst S hC htl htg hiu hjv hN
 go_enter Tryz.func212, Tryz.ntmps212
 go_wp2_with fail
 go_loopw [10, 11] (fun x y wr => ∃ (i j : Nat) (dk : Array α), x = .int .i64 i ∧ y = .int .i64 j ∧ 0 < i ∧ 0 < j ∧ RInv tgt m i j dk ∧ SWK (enc f0 f1) 2 w0 blk off dk wr) (fun x y _ => (intOf x).toNat + (intOf y).toNat)
 case atStart => exact ⟨iu, jv, d, rfl, rfl, hu, hv, Hst.out, HS.out⟩
 case round =>
  clear i1 i2
  obtain ⟨i, j, dk, rfl, rfl, hi, hj, hI, S⟩ := hrel
  have hsz := hI.size
  rw [Htl.out] at hsz
  have hl := hI.le
  rw [hsz] at hl
  have w1 : IntKind.i64.wrap ((m : Int) - (i : Int)) = ((m - i : Nat) : Int) := by rw [IntWalk.i64_in _ (by omega)]; omega
  rcases Nat.lt_trichotomy i j with hij | hij | hij
  ·have hne : ((i : Int) == (j : Int)) = false := by rw [beq_eq_false_iff_ne]; omega
   have hgt : decide ((j : Int) < (i : Int)) = false := decide_eq_false (by omega)
   have w2 : IntKind.i64.wrap ((m : Int) + (j : Int)) = (m : Int) + (j : Int) := IntWalk.i64_in _ (by omega)
   have w3 : IntKind.i64.wrap ((m : Int) + (j : Int) - (i : Int)) = ((m + j - i : Nat) : Int) := by rw [IntWalk.i64_in _ (by omega)]; omega
   have w4 : IntKind.i64.wrap ((j : Int) - (i : Int)) = ((j - i : Nat) : Int) := by rw [IntWalk.i64_in _ (by omega)]; omega
   have hc := HC.out dk wr hsz S (m - i) (m + j - i) i (by omega) (by omega)
   have hnI := hI.lt hij
   clear S hI
   obtain ⟨Hc, HnI, Hsz⟩ := hd3 hc hnI hsz; clear hc hnI hsz
   go_wp2_with fail
   refine Hc.out.mono ?_
   rintro e w2 ⟨rfl, S⟩
   have HS := hd S; clear S
   go_wp2_with fail
   go_roundw
   case rel => exact ⟨i, j - i, _, rfl, rfl, hi, by omega, HnI.out, HS.out⟩
   case measure => simp [intOf]; omega
  ·subst hij
   have hne : ((i : Int) == (i : Int)) = true := by simp
   have hc := HC.out dk wr hsz S (m - i) m i (by omega) (by omega)
   have hnI := hI.eq
   clear S hI
   obtain ⟨Hc, HnI, Hsz⟩ := hd3 hc hnI hsz; clear hc hnI hsz
   go_wp2_with fail
   refine Hc.out.mono ?_
   rintro e w2 ⟨rfl, S⟩
   have HS := hd S; clear S
   go_wp2_with fail
   go_end0
   exact ⟨rfl, _, HS.out, HnI.out⟩
  ·have hne : ((i : Int) == (j : Int)) = false := by rw [beq_eq_false_iff_ne]; omega
   have hgt : decide ((j : Int) < (i : Int)) = true := decide_eq_true (by omega)
   have w4 : IntKind.i64.wrap ((i : Int) - (j : Int)) = ((i - j : Nat) : Int) := by rw [IntWalk.i64_in _ (by omega)]; omega
   have hc := HC.out dk wr hsz S (m - i) m j (by omega) (by omega)
   have hnI := hI.gt hij
   clear S hI
   obtain ⟨Hc, HnI, Hsz⟩ := hd3 hc hnI hsz; clear hc hnI hsz
   go_wp2_with fail
   refine Hc.out.mono ?_
   rintro e w2 ⟨rfl, S⟩
   have HS := hd S; clear S
   go_wp2_with fail
   go_roundw
   case rel => exact ⟨i - j, j, _, rfl, rfl, by omega, hj, HnI.out, HS.out⟩
   case measure => simp [intOf]; omega
end StbSpan
end Go.Proofs.YteailgjiifdgcaaGreatDoor
