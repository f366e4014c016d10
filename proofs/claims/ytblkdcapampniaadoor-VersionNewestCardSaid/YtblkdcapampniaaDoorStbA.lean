/- Plain facts of a rotation by exchanges, for the stable sort. Conditions: as each says. -/
import Derived.Test.YtblkdcapampniaaDoorSortM
import Derived.Sort.LotA
import Derived.Sort.WalkA
set_option linter.unusedVariables false
set_option linter.unusedSimpArgs false
/- Plain facts: what the walks of the stable sort do to an array, told by lists: swaps, exchanges of runs, rotations, binary search, symMerge. -/
namespace Go.Proofs.YtblkdcapampniaaDoor.StbA
open Go.Sort Go.Proofs.YtblkdcapampniaaDoor.SortM
variable {α : Type}
theorem set_mid (p q : List α) (x y : α) (i : Nat) (hi : i = p.length) : (p ++ x :: q).set i y = p ++ y :: q := by subst hi; simp
/-- where a rotation stands: i elements ahead of m and j behind it are still to be exchanged -/
def RInv (tgt : List α) (m i j : Nat) (d : Array α) : Prop := ∃ p u v q, d.toList = p ++ u ++ v ++ q ∧ u.length = i ∧ v.length = j ∧ p.length + i = m ∧ tgt = p ++ v ++ u ++ q
theorem RInv.start {d : Array α} {p u v q : List α} (h : d.toList = p ++ u ++ v ++ q) {m i j : Nat} (hi : i = u.length) (hj : j = v.length) (hm : m = p.length + u.length) : RInv (p ++ v ++ u ++ q) m i j d := ⟨p, u, v, q, h, hi.symm, hj.symm, by omega, rfl⟩
theorem RInv.size {tgt : List α} {m i j : Nat} {d : Array α} (h : RInv tgt m i j d) : d.size = tgt.length := by
  obtain ⟨p, u, v, q, h1, _, _, _, h5⟩ := h
  rw [← Array.length_toList, h1, h5]; simp; omega
theorem RInv.le {tgt : List α} {m i j : Nat} {d : Array α} (h : RInv tgt m i j d) : i ≤ m ∧ m + j ≤ d.size := by
  obtain ⟨p, u, v, q, h1, h2, h3, h4, h5⟩ := h
  rw [← Array.length_toList, h1]; simp; omega
theorem swo_of {lt : α → α → Bool} (h : Swo lt) : SWO lt := ⟨irrefl h, fun x y z h1 h2 => by
    cases e : lt x z
    · have := h.ntrans y z x (h.asymm _ _ h2) e
      rw [h1] at this; cases this
    · rfl, fun x y z h1 h2 => h.ntrans z y x h2 h1⟩
variable [Inhabited α]
theorem get_of {d : Array α} {p q : List α} {x : α} (h : d.toList = p ++ x :: q) {i : Nat} (hi : i = p.length) : d[i]! = x := by
  subst hi
  have hl : p.length < d.size := by rw [← Array.length_toList, h]; simp
  rw [getElem!_pos d _ hl, ← Array.getElem_toList]
  simp [h]
theorem get_list (d : Array α) (i : Nat) : d[i]! = d.toList[i]! := by
  by_cases h : i < d.size
  · rw [getElem!_pos d _ h, getElem!_pos d.toList _ (by simpa using h), Array.getElem_toList]
  · rw [getElem!_neg d _ h, getElem!_neg d.toList _ (by simpa using h)]
theorem toList_swp (d : Array α) (i j : Nat) : (swp d i j).toList = (d.toList.set i d[j]!).set j d[i]! := by simp [swp]
theorem swp_split {d : Array α} {p m q : List α} {x y : α} (h : d.toList = p ++ x :: (m ++ y :: q)) {i j : Nat} (hi : i = p.length) (hj : j = p.length + 1 + m.length) : (swp d i j).toList = p ++ y :: (m ++ x :: q) := by
  have h1 : d[i]! = x := get_of h hi
  have h2 : d[j]! = y := get_of (p := p ++ x :: m) (q := q) (by rw [h]; simp) (by simp; omega)
  rw [toList_swp, h1, h2, h, set_mid p _ x y i hi]
  have e : p ++ y :: (m ++ y :: q) = (p ++ y :: m) ++ y :: q := by simp
  rw [e, set_mid _ _ _ _ _ (by simp; omega)]
  simp
theorem swp_comm (d : Array α) (i j : Nat) : swp d i j = swp d j i := by
  apply Array.ext'
  rw [toList_swp, toList_swp]
  by_cases h : i = j
  · subst h; rfl
  · exact List.set_comm _ _ h
theorem swp_split' {d : Array α} {p m q : List α} {x y : α} (h : d.toList = p ++ x :: (m ++ y :: q)) {i j : Nat} (hi : i = p.length) (hj : j = p.length + 1 + m.length) : (swp d j i).toList = p ++ y :: (m ++ x :: q) := by
  rw [swp_comm]; exact swp_split h hi hj

/-- n exchanges: a with b, a + 1 with b + 1, .. -/
def swr (d : Array α) (a b : Nat) : Nat → Array α
  | 0 => d
  | i + 1 => swp (swr d a b i) (a + i) (b + i)
theorem size_swr (d : Array α) (a b n : Nat) : (swr d a b n).size = d.size := by
  induction n with
  | zero => rfl
  | succ n ih => rw [swr, size_swp, ih]
theorem swr_rev (d : Array α) : ∀ (x y p m q : List α), x.length = y.length → d.toList = p ++ x.reverse ++ m ++ y.reverse ++ q → (swr d p.length (p.length + x.length + m.length) x.length).toList = p ++ y.reverse ++ m ++ x.reverse ++ q := by
  intro x
  induction x with
  | nil =>
    intro y p m q hl h
    obtain rfl : y = [] := List.eq_nil_of_length_eq_zero hl.symm
    exact h
  | cons u x ih =>
    intro y p m q hl h
    match y with
    | [] => simp at hl
    | v :: y =>
      have hl' : x.length = y.length := by simpa using hl
      have h1 := ih y p (u :: m) (v :: q) hl' (by rw [h]; simp)
      have e : p.length + (u :: x).length + m.length = p.length + x.length + (u :: m).length := by simp; omega
      rw [e, show (u :: x).length = x.length + 1 from rfl, swr]
      have h2 := swp_split (d := swr d p.length (p.length + x.length + (u :: m).length) x.length) (p := p ++ y.reverse) (m := m ++ x.reverse) (q := q) (x := u) (y := v) (by rw [h1]; simp) (i := p.length + x.length) (j := p.length + x.length + (u :: m).length + x.length) (by simp; omega) (by simp; omega)
      rw [h2]; simp
theorem swr_split {d : Array α} {p x m y q : List α} (hl : x.length = y.length) (h : d.toList = p ++ x ++ m ++ y ++ q) {a b n : Nat} (ha : a = p.length) (hb : b = p.length + x.length + m.length) (hn : n = x.length) : (swr d a b n).toList = p ++ y ++ m ++ x ++ q := by
  subst ha hb hn
  have := swr_rev d x.reverse y.reverse p m q (by simpa using hl) (by simpa using h)
  simpa using this

theorem RInv.gt {tgt : List α} {m i j : Nat} {d : Array α} (h : RInv tgt m i j d) (hij : j < i) : RInv tgt m (i - j) j (swr d (m - i) m j) := by
  obtain ⟨p, u, v, q, h1, h2, h3, h4, h5⟩ := h
  have hu : u = u.take j ++ u.drop j := (List.take_append_drop _ _).symm
  have hx : (u.take j).length = j := by simp; omega
  have hy : (u.drop j).length = i - j := by simp; omega
  generalize u.take j = x at hu hx
  generalize u.drop j = y at hu hy
  subst hu
  refine ⟨p ++ v, y, x, q, ?_, hy, hx, by simp; omega, by rw [h5]; simp⟩
  have := swr_split (d := d) (p := p) (x := x) (m := y) (y := v) (q := q) (by omega) (by rw [h1]; simp) (a := m - i) (b := m) (n := j) (by omega) (by simp at h2; omega) hx.symm
  rw [this]
theorem RInv.lt {tgt : List α} {m i j : Nat} {d : Array α} (h : RInv tgt m i j d) (hij : i < j) : RInv tgt m i (j - i) (swr d (m - i) (m + j - i) i) := by
  obtain ⟨p, u, v, q, h1, h2, h3, h4, h5⟩ := h
  have hv : v = v.take (j - i) ++ v.drop (j - i) := (List.take_append_drop _ _).symm
  have hx : (v.take (j - i)).length = j - i := by simp; omega
  have hy : (v.drop (j - i)).length = i := by simp; omega
  generalize v.take (j - i) = x at hv hx
  generalize v.drop (j - i) = y at hv hy
  subst hv
  refine ⟨p, y, x, u ++ q, ?_, hy, hx, by omega, by rw [h5]; simp⟩
  have := swr_split (d := d) (p := p) (x := u) (m := x) (y := y) (q := q) (by omega) (by rw [h1]; simp) (a := m - i) (b := m + j - i) (n := i) (by omega) (by omega) h2.symm
  rw [this]; simp
theorem RInv.eq {tgt : List α} {m i : Nat} {d : Array α} (h : RInv tgt m i i d) : (swr d (m - i) m i).toList = tgt := by
  obtain ⟨p, u, v, q, h1, h2, h3, h4, h5⟩ := h
  rw [h5]
  have := swr_split (d := d) (p := p) (x := u) (m := []) (y := v) (q := q) (by omega) (by rw [h1]; simp) (a := m - i) (b := m) (n := i) (by omega) (by simp; omega) h2.symm
  rw [this]; simp
/-- an element is carried n places up, or down -/
def upN (d : Array α) (a : Nat) : Nat → Array α
  | 0 => d
  | n + 1 => swp (upN d a n) (a + n) (a + n + 1)
def dnN (d : Array α) (m : Nat) : Nat → Array α
  | 0 => d
  | n + 1 => swp (dnN d m n) (m - n) (m - n - 1)
theorem size_upN (d : Array α) (a n : Nat) : (upN d a n).size = d.size := by
  induction n with
  | zero => rfl
  | succ n ih => rw [upN, size_swp, ih]
theorem size_dnN (d : Array α) (a n : Nat) : (dnN d a n).size = d.size := by
  induction n with
  | zero => rfl
  | succ n ih => rw [dnN, size_swp, ih]
theorem upN_rev (d : Array α) (x : α) (p : List α) : ∀ (v q : List α), d.toList = p ++ x :: (v.reverse ++ q) → (upN d p.length v.length).toList = p ++ v.reverse ++ x :: q := by
  intro v
  induction v with
  | nil => intro q h; simpa [upN] using h
  | cons y v ih =>
    intro q h
    have h1 := ih (y :: q) (by rw [h]; simp)
    have h2 := swp_split (d := upN d p.length v.length) (p := p ++ v.reverse) (m := []) (q := q) (x := x) (y := y) (by rw [h1]; simp) (i := p.length + v.length) (j := p.length + v.length + 1) (by simp) (by simp)
    rw [show (y :: v).length = v.length + 1 from rfl, upN, h2]; simp
theorem upN_split {d : Array α} {x : α} {p v q : List α} (h : d.toList = p ++ x :: (v ++ q)) {a n : Nat} (ha : a = p.length) (hn : n = v.length) : (upN d a n).toList = p ++ v ++ x :: q := by
  subst ha hn
  have := upN_rev d x p v.reverse q (by simpa using h)
  simpa using this
theorem dnN_split' (d : Array α) (x : α) (q : List α) (m : Nat) : ∀ (v p : List α), m = p.length + v.length → d.toList = p ++ v ++ x :: q → (dnN d m v.length).toList = p ++ x :: (v ++ q) := by
  intro v
  induction v with
  | nil => intro p _ h; simpa [dnN] using h
  | cons y v ih =>
    intro p hm h
    have hm' : m = p.length + (v.length + 1) := by simpa using hm
    have h1 := ih (p ++ [y]) (by simp; omega) (by rw [h]; simp)
    have h2 := swp_split' (d := dnN d m v.length) (p := p) (m := []) (q := v ++ q) (x := y) (y := x) (by rw [h1]; simp) (i := m - v.length - 1) (j := m - v.length) (by omega) (by simp; omega)
    rw [show (y :: v).length = v.length + 1 from rfl, dnN, h2]; simp
theorem dnN_split {d : Array α} {x : α} {p v q : List α} (h : d.toList = p ++ v ++ x :: q) {m n : Nat} (hm : m = p.length + v.length) (hn : n = v.length) : (dnN d m n).toList = p ++ x :: (v ++ q) := by
  subst hn; exact dnN_split' d x q m v p hm h

/-- where a binary search stands -/
structure BS (f : Nat → Bool) (lo hi i j : Nat) : Prop where
  l1 : lo ≤ i
  l2 : i ≤ j
  l3 : j ≤ hi
  yes : ∀ c, lo ≤ c → c < i → f c = true
  no : ∀ c, j ≤ c → c < hi → f c = false
def Mono (f : Nat → Bool) (lo hi : Nat) : Prop := ∀ c c', lo ≤ c' → c' ≤ c → c < hi → f c = true → f c' = true
theorem BS.start (f : Nat → Bool) {lo hi : Nat} (h : lo ≤ hi) : BS f lo hi lo hi := ⟨Nat.le_refl _, h, Nat.le_refl _, fun _ _ _ => by omega, fun _ _ _ => by omega⟩
theorem BS.left {f : Nat → Bool} {lo hi i j h : Nat} (hM : Mono f lo hi) (hB : BS f lo hi i j) (h1 : i ≤ h) (h2 : h < j) (hf : f h = true) : BS f lo hi (h + 1) j :=
  ⟨by have := hB.l1; omega, h2, hB.l3, fun c hc1 hc2 => hM h c hc1 (by omega) (by have := hB.l3; omega) hf, hB.no⟩
theorem BS.right {f : Nat → Bool} {lo hi i j h : Nat} (hM : Mono f lo hi) (hB : BS f lo hi i j) (h1 : i ≤ h) (h2 : h < j) (hf : f h = false) : BS f lo hi i h :=
  ⟨hB.l1, h1, by have := hB.l3; omega, hB.yes, fun c hc1 hc2 => by
    cases e : f c
    · rfl
    · have := hM c h (by have := hB.l1; omega) hc1 hc2 e; rw [hf] at this; cases this⟩

variable {lt : α → α → Bool}
/-- a part of the row that is sorted -/
def SortedIx (lt : α → α → Bool) (a b : Nat) (d : Array α) : Prop := ∀ i j, a ≤ i → i ≤ j → j < b → lt d[j]! d[i]! = false
theorem sortedIx_of (h : Swo lt) {d : Array α} {p u q : List α} (hd : d.toList = p ++ u ++ q) (hu : Sorted lt u) {a b : Nat} (ha : a = p.length) (hb : b = p.length + u.length) : SortedIx lt a b d := by
  intro i j hi hij hj
  rcases Nat.lt_or_eq_of_le hij with hij | rfl
  · have hs := List.pairwise_iff_getElem.1 hu (i - a) (j - a) (by omega) (by omega) (by omega)
    have g : ∀ k, (hk : k - a < u.length) → a ≤ k → d[k]! = u[k - a] := fun k hk h1 => by
      refine get_of (p := p ++ u.take (k - a)) (q := u.drop (k - a + 1) ++ q) ?_ (by simp; omega)
      rw [hd]
      conv => lhs; rw [← List.take_append_drop (k - a) u, List.drop_eq_getElem_cons hk]
      simp only [List.append_assoc, List.cons_append]
    rw [g i (by omega) hi, g j (by omega) (by omega)]; exact hs
  · exact irrefl h _
theorem get_in {d : Array α} {p u q : List α} (hd : d.toList = p ++ u ++ q) (k : Nat) (hk : k < u.length) : d[p.length + k]! = u[k] := by
  refine get_of (p := p ++ u.take k) (q := u.drop (k + 1) ++ q) ?_ (by simp; omega)
  rw [hd]
  conv => lhs; rw [← List.take_append_drop k u, List.drop_eq_getElem_cons hk]
  simp only [List.append_assoc, List.cons_append]

/-! one element ahead of a sorted run -/
theorem mono_left (h : Swo lt) {d : Array α} {a m b : Nat} (hs : SortedIx lt m b d) : Mono (fun c => lt d[c]! d[a]!) m b := by
  intro c c' h1 h2 h3 hc
  show lt d[c']! d[a]! = true
  cases e : lt d[c']! d[a]!
  · have := h.ntrans _ _ _ e (hs c' c h1 h2 h3)
    rw [show lt d[c]! d[a]! = true from hc] at this; cases this
  · rfl
theorem one_left (h : Swo lt) {d : Array α} {p v q : List α} {x : α} (hd : d.toList = p ++ x :: (v ++ q)) (hv : Sorted lt v) {a m b i : Nat} (ha : a = p.length) (hm : m = a + 1) (hb : b = m + v.length) (hB : BS (fun c => lt d[c]! d[a]!) m b i i) :
    (upN d a (i - 1 - a)).toList = p ++ ssort lt (x :: v) ++ q := by
  have hx : d[a]! = x := get_of hd ha
  have hd2 : d.toList = (p ++ [x]) ++ v ++ q := by rw [hd]; simp
  have hg : ∀ k, (hk : k < v.length) → d[m + k]! = v[k] := fun k hk => by
    have := get_in hd2 k hk
    rw [show (p ++ [x]).length + k = m + k from by simp; omega] at this; exact this
  have hi1 := hB.l1
  have hi2 := hB.l3
  have e1 : ∀ y ∈ v.take (i - m), lt y x = true := fun y hy => by
    obtain ⟨k, hk, rfl⟩ := List.getElem_of_mem hy
    simp only [List.length_take] at hk
    have := hB.yes (m + k) (by omega) (by omega)
    rw [hg k (by omega), hx] at this
    simpa using this
  have e2 : ∀ y ∈ v.drop (i - m), lt y x = false := fun y hy => by
    obtain ⟨k, hk, rfl⟩ := List.getElem_of_mem hy
    simp only [List.length_drop] at hk
    have := hB.no (m + (i - m + k)) (by omega) (by omega)
    rw [hg _ (by omega), hx] at this
    simpa using this
  have hsplit : v = v.take (i - m) ++ v.drop (i - m) := (List.take_append_drop _ _).symm
  have hl : (v.take (i - m)).length = i - m := by simp; omega
  generalize v.take (i - m) = v1 at *
  generalize v.drop (i - m) = v2 at *
  subst hsplit
  have hu := upN_split (d := d) (x := x) (p := p) (v := v1) (q := v2 ++ q) (by rw [hd]; simp) (a := a) (n := i - 1 - a) ha (by omega)
  rw [hu]
  have hp := List.pairwise_append.1 hv
  have : v1 ++ x :: v2 = ssort lt (x :: (v1 ++ v2)) := by
    apply ssort_eq h
    · have := (Sw.over (lt := lt) x v1 e1).ctx [] v2
      simpa using this
    · refine List.pairwise_append.2 ⟨hp.1, List.pairwise_cons.2 ⟨e2, hp.2.1⟩, fun y hy z hz => ?_⟩
      rcases List.mem_cons.1 hz with e | hz
      · rw [e]; exact h.asymm _ _ (e1 y hy)
      · exact hp.2.2 y hy z hz
  rw [← this]; simp
/-! one element behind a sorted run -/
theorem mono_right (h : Swo lt) {d : Array α} {a m : Nat} (hs : SortedIx lt a m d) : Mono (fun c => !lt d[m]! d[c]!) a m := by
  intro c c' h1 h2 h3 hc
  have hc' : lt d[m]! d[c]! = false := by simpa using hc
  show (!lt d[m]! d[c']!) = true
  rw [h.ntrans _ _ _ (hs c' c h1 h2 h3) hc']; rfl
theorem one_right (h : Swo lt) {d : Array α} {p u q : List α} {x : α} (hd : d.toList = p ++ u ++ x :: q) (hu : Sorted lt u) {a m i : Nat} (ha : a = p.length) (hm : m = a + u.length) (hB : BS (fun c => !lt d[m]! d[c]!) a m i i) :
    (dnN d m (m - i)).toList = p ++ ssort lt (u ++ [x]) ++ q := by
  have hx : d[m]! = x := get_of hd (by simp; omega)
  have hg : ∀ k, (hk : k < u.length) → d[a + k]! = u[k] := fun k hk => by
    have := get_in (q := x :: q) hd k hk
    rw [ha]; exact this
  have hi1 := hB.l1
  have hi2 := hB.l3
  have e1 : ∀ y ∈ u.take (i - a), lt x y = false := fun y hy => by
    obtain ⟨k, hk, rfl⟩ := List.getElem_of_mem hy
    simp only [List.length_take] at hk
    have := hB.yes (a + k) (by omega) (by omega)
    simp only [hg k (by omega), hx] at this
    simpa using this
  have e2 : ∀ y ∈ u.drop (i - a), lt x y = true := fun y hy => by
    obtain ⟨k, hk, rfl⟩ := List.getElem_of_mem hy
    simp only [List.length_drop] at hk
    have := hB.no (a + (i - a + k)) (by omega) (by omega)
    simp only [hg _ (show i - a + k < u.length by omega), hx] at this
    simpa using this
  have hsplit : u = u.take (i - a) ++ u.drop (i - a) := (List.take_append_drop _ _).symm
  have hl : (u.take (i - a)).length = i - a := by simp; omega
  have hl2 : (u.drop (i - a)).length = m - i := by simp; omega
  generalize u.take (i - a) = v1 at *
  generalize u.drop (i - a) = v2 at *
  subst hsplit
  have hdn := dnN_split (d := d) (x := x) (p := p ++ v1) (v := v2) (q := q) (by rw [hd]; simp) (m := m) (n := m - i) (by simp; omega) hl2.symm
  rw [hdn]
  have hp := List.pairwise_append.1 hu
  have : v1 ++ x :: v2 = ssort lt (v1 ++ v2 ++ [x]) := by
    apply ssort_eq h
    · have := (Sw.blocks (lt := lt) v2 [x] (fun a ha b hb => by simp at hb; subst hb; exact e2 a ha)).ctx v1 []
      simpa using this
    · refine List.pairwise_append.2 ⟨hp.1, List.pairwise_cons.2 ⟨fun y hy => h.asymm _ _ (e2 y hy), hp.2.1⟩, fun y hy z hz => ?_⟩
      rcases List.mem_cons.1 hz with e | hz
      · rw [e]; exact e1 y hy
      · exact hp.2.2 y hy z hz
  rw [← this]; simp
/-! the general cut -/
theorem mono_sym (h : Swo lt) {d : Array α} {a m b n lo hi : Nat} (hs1 : SortedIx lt a m d) (hs2 : SortedIx lt m b d) (h1 : a ≤ lo) (h2 : hi ≤ m) (h3 : n - hi ≥ m) (h4 : n - 1 - lo < b) (h5 : hi ≤ n) : Mono (fun c => !lt d[n - 1 - c]! d[c]!) lo hi := by
  intro c c' k1 k2 k3 hc
  have hc' : lt d[n - 1 - c]! d[c]! = false := by simpa using hc
  show (!lt d[n - 1 - c']! d[c']!) = true
  have e1 : lt d[c]! d[c']! = false := hs1 c' c (by omega) k2 (by omega)
  have e2 : lt d[n - 1 - c']! d[n - 1 - c]! = false := hs2 (n - 1 - c) (n - 1 - c') (by omega) (by omega) (by omega)
  rw [h.ntrans _ _ _ (h.ntrans _ _ _ e1 hc') e2]; rfl
theorem sym_cut (h : Swo lt) {d : Array α} {p u v q : List α} (hd : d.toList = p ++ u ++ v ++ q) (hu : Sorted lt u) (hv : Sorted lt v) {a m b mid n lo hi s : Nat} (ha : a = p.length) (hm : m = a + u.length) (hb : b = m + v.length)
    (hmid : mid = (a + b) / 2) (hn : n = mid + m) (hab : a < b) (hlo : (mid < m → lo = n - b ∧ hi = mid) ∧ (¬ mid < m → lo = a ∧ hi = m)) (hB : BS (fun c => !lt d[n - 1 - c]! d[c]!) lo hi s s) :
    ∃ l1 l2 r1 r2, u = l1 ++ l2 ∧ v = r1 ++ r2 ∧ a + l1.length = s ∧ m + r1.length = n - s ∧ ssort lt (u ++ v) = ssort lt (l1 ++ r1) ++ ssort lt (l2 ++ r2) := by
  have hs1 := hB.l1
  have hs3 := hB.l3
  have b1 : a ≤ s ∧ s ≤ m ∧ m ≤ n - s ∧ n - s ≤ b := by
    by_cases hc : mid < m
    · obtain ⟨rfl, rfl⟩ := hlo.1 hc; omega
    · obtain ⟨rfl, rfl⟩ := hlo.2 hc; omega
  have gu : ∀ k, (hk : k < u.length) → d[a + k]! = u[k] := fun k hk => by
    have := get_in (q := v ++ q) (by rw [hd]; simp : d.toList = p ++ u ++ (v ++ q)) k hk
    rw [ha]; exact this
  have gv : ∀ k, (hk : k < v.length) → d[m + k]! = v[k] := fun k hk => by
    have := get_in hd k hk
    rw [show (p ++ u).length + k = m + k from by simp; omega] at this; exact this
  refine ⟨u.take (s - a), u.drop (s - a), v.take (n - s - m), v.drop (n - s - m), (List.take_append_drop _ _).symm, (List.take_append_drop _ _).symm, by simp; omega, by simp; omega, ?_⟩
  have hsU : ∀ i j (hi : i < u.length) (hj : j < u.length), i ≤ j → lt u[j] u[i] = false := fun i j hi hj hij => by
    rcases Nat.lt_or_eq_of_le hij with hij | rfl
    · exact List.pairwise_iff_getElem.1 hu i j hi hj hij
    · exact irrefl h _
  have hsV : ∀ i j (hi : i < v.length) (hj : j < v.length), i ≤ j → lt v[j] v[i] = false := fun i j hi hj hij => by
    rcases Nat.lt_or_eq_of_le hij with hij | rfl
    · exact List.pairwise_iff_getElem.1 hv i j hi hj hij
    · exact irrefl h _
  have hpu : Sorted lt (u.take (s - a) ++ u.drop (s - a)) := by rw [List.take_append_drop]; exact hu
  have hpv : Sorted lt (v.take (n - s - m) ++ v.drop (n - s - m)) := by rw [List.take_append_drop]; exact hv
  have key := ssort_cut h (u.take (s - a)) (u.drop (s - a)) (v.take (n - s - m)) (v.drop (n - s - m)) ?_ (fun x hx y hy => (List.pairwise_append.1 hpu).2.2 x hx y hy) (fun x hx y hy => (List.pairwise_append.1 hpv).2.2 x hx y hy) ?_
  · rw [List.take_append_drop, List.take_append_drop] at key; exact key
  · -- l2 over r1
    intro x hx y hy
    obtain ⟨k, hk, rfl⟩ := List.getElem_of_mem hx
    obtain ⟨j, hj, rfl⟩ := List.getElem_of_mem hy
    simp only [List.length_drop] at hk
    simp only [List.length_take] at hj
    simp only [List.getElem_drop, List.getElem_take]
    -- s < hi
    have hsh : s < hi := by
      by_cases hc : mid < m
      · have := hlo.1 hc; omega
      · have := hlo.2 hc; omega
    have hN := hB.no s (Nat.le_refl _) hsh
    have hN' : lt d[n - 1 - s]! d[s]! = true := by simpa using hN
    have e1 : d[s]! = u[s - a]'(by omega) := by rw [← gu (s - a) (by omega)]; congr 1; omega
    have e2 : d[n - 1 - s]! = v[n - 1 - s - m]'(by omega) := by rw [← gv (n - 1 - s - m) (by omega)]; congr 1; omega
    rw [e1, e2] at hN'
    cases e : lt v[j] u[s - a + k]
    · have h1 := hsU (s - a) (s - a + k) (by omega) (by omega) (by omega)
      have h2 := hsV j (n - 1 - s - m) (by omega) (by omega) (by omega)
      have h3 := h.ntrans _ _ _ (h.ntrans _ _ _ h1 e) h2
      rw [hN'] at h3; cases h3
    · rfl
  · -- l1 over r2
    intro x hx y hy
    obtain ⟨k, hk, rfl⟩ := List.getElem_of_mem hx
    obtain ⟨j, hj, rfl⟩ := List.getElem_of_mem hy
    simp only [List.length_take] at hk
    simp only [List.length_drop] at hj
    simp only [List.getElem_drop, List.getElem_take]
    have hsh : lo < s := by
      by_cases hc : mid < m
      · have := hlo.1 hc; omega
      · have := hlo.2 hc; omega
    have hN := hB.yes (s - 1) (by omega) (by omega)
    have hN' : lt d[n - 1 - (s - 1)]! d[s - 1]! = false := by simpa using hN
    have e1 : d[s - 1]! = u[s - 1 - a]'(by omega) := by rw [← gu (s - 1 - a) (by omega)]; congr 1; omega
    have e2 : d[n - 1 - (s - 1)]! = v[n - s - m]'(by omega) := by rw [← gv (n - s - m) (by omega)]; congr 1; omega
    rw [e1, e2] at hN'
    have h1 := hsU k (s - 1 - a) (by omega) (by omega) (by omega)
    have h2 := hsV (n - s - m) (n - s - m + j) (by omega) (by omega) (by omega)
    exact h.ntrans _ _ _ (h.ntrans _ _ _ h1 hN') h2

/-! insertion -/
theorem insInner_sw (lt : α → α → Bool) (p q x0 : List α) : ∀ (j : Nat) (d : Array α), j < p.length + x0.length → (∃ x, d.toList = p ++ x ++ q ∧ Sw lt x0 x) → ∃ x, (insInner lt p.length j d).toList = p ++ x ++ q ∧ Sw lt x0 x := by
  intro j
  induction j with
  | zero => intro d _ h; rw [insInner]; exact h
  | succ j ih =>
    intro d hj h
    rw [insInner]
    split
    · rename_i hc
      simp only [Bool.and_eq_true, decide_eq_true_eq] at hc
      refine ih _ (by omega) ?_
      obtain ⟨x, hx, hs⟩ := h
      have hl : x.length = x0.length := hs.perm.length_eq.symm
      have k1 : j - p.length < x.length := by omega
      have k2 : j - p.length + 1 < x.length := by omega
      have e : x = x.take (j - p.length) ++ x[j - p.length] :: x[j - p.length + 1] :: x.drop (j - p.length + 2) := by
        conv => lhs; rw [← List.take_append_drop (j - p.length) x, List.drop_eq_getElem_cons k1, List.drop_eq_getElem_cons k2]
      have g1 : d[j]! = x[j - p.length] := by rw [← get_in hx (j - p.length) k1]; congr 1; omega
      have g2 : d[j + 1]! = x[j - p.length + 1] := by rw [← get_in hx (j - p.length + 1) k2]; congr 1; omega
      have hlt := hc.2
      rw [g1, g2] at hlt
      have hpl : (x.take (j - p.length)).length = j - p.length := by simp; omega
      generalize x.take (j - p.length) = xa at e hpl
      generalize x.drop (j - p.length + 2) = xb at e
      generalize x[j - p.length] = y at *
      generalize x[j - p.length + 1] = z at *
      subst e
      have hsw := swp_split' (d := d) (p := p ++ xa) (m := []) (q := xb ++ q) (x := y) (y := z) (by rw [hx]; simp) (i := j) (j := j + 1) (by simp; omega) (by simp; omega)
      exact ⟨xa ++ z :: y :: xb, by rw [hsw]; simp, .step xa y z xb hs hlt⟩
    · exact h
theorem insOuter_sw (lt : α → α → Bool) (p q x0 : List α) (b : Nat) (hb : b = p.length + x0.length) : ∀ (k i : Nat) (d : Array α), b - i ≤ k → (∃ x, d.toList = p ++ x ++ q ∧ Sw lt x0 x) → ∃ x, (insOuter lt p.length b i d).toList = p ++ x ++ q ∧ Sw lt x0 x := by
  intro k
  induction k with
  | zero => intro i d hk h; rw [insOuter, if_neg (by omega)]; exact h
  | succ k ih =>
    intro i d hk h
    rw [insOuter]
    split
    · exact ih _ _ (by omega) (insInner_sw lt p q x0 i d (by omega) h)
    · exact h
theorem insertion_is (h : Swo lt) {d : Array α} {p x q : List α} (hd : d.toList = p ++ x ++ q) {a b : Nat} (ha : a = p.length) (hb : b = p.length + x.length) : (insertionSort lt d a b).toList = p ++ ssort lt x ++ q := by
  subst ha
  obtain ⟨y, hy, hs⟩ := insOuter_sw lt p q x b hb b (p.length + 1) d (by omega) ⟨x, hd, .refl⟩
  have hsz : b ≤ d.size := by rw [← Array.length_toList, hd]; simp; omega
  have hso := (insertionSort_holds (lt := lt) (swo_of h) d p.length b (by omega) hsz).2
  have hl : y.length = x.length := hs.perm.length_eq.symm
  have : y = ssort lt x := by
    apply ssort_eq h hs
    refine List.pairwise_iff_getElem.2 fun i j hi hj hij => ?_
    have := hso (p.length + i) (p.length + j) (by omega) (by omega) (by omega)
    rw [show insertionSort lt d p.length b = insOuter lt p.length b (p.length + 1) d from rfl, get_in hy i hi, get_in hy j hj] at this
    exact this
  rw [← this]; exact hy
end Go.Proofs.YtblkdcapampniaaDoor.StbA
