/- Walks and plain facts. Texts merged: VarG, StbA, StbB, StbSetK, StbSetR, StbSetM, StbSetN1, StbSetN2, StbSetN3, StbSetI, StbSetT. Condition: none beyond what each says. -/
import Derived.Sort.LotA
import Derived.Sort.WalkA
import Derived.Shelf.SlSortCmp.KitK
import Derived.Deep.LoopGhost
import Derived.BigRegion
import Derived.Test.YtnelgellbabkoaaRows
import Derived.Shelf.SlSortCmp.QuietGrown
import Derived.Deep.CutRange
import Derived.Test.YtnelgellbabkoaaVariantBothAll1
import Derived.Test.YtnelgellbabkoaaVariantBothAll2
import Derived.Test.YtnelgellbabkoaaVariantBothAll3
/- The walks of cooperref01.Great and cooperref04.GreatVariants: a bound. No condition. -/
namespace Go.Proofs.Ytnelgellbabkoaa
open Go.RowKit Go.Shelf

set_option maxRecDepth 10000 in
set_option maxHeartbeats 1000000 in
theorem great01_any {w : World} {v : Value} {l : List ByteArray} (h : RSs w [v] l) : Calls Try.prog 66 #[v] w fun e w' => (∃ r, e = .returned (.bool r)) ∧ w = w' := by
  obtain ⟨a, cap, rfl, hz, g⟩ := strs_open h
  obtain ⟨n, hn⟩ : ∃ n, n = l.length := ⟨_, rfl⟩
  rw [← hn] at hz h ⊢
  have Hh := Lib.hid h; have Hg := Lib.hid g; have Hn := Lib.hid hn; clear h g hn
  go_enter Try.func66, Try.ntmps66
  go_wp2_with fail
  go_loopw [3, 7] (fun o i wr => ∃ k c : Nat, k ≤ n ∧ i = .int .i64 k ∧ o = .int .i64 c ∧ c ≤ 9000 ∧ w = wr) (fun _ i _ => n - (intOf i).toNat)
  case atStart => exact ⟨0, 0, Nat.zero_le _, rfl, rfl, by omega, rfl⟩
  case round =>
    obtain ⟨k, c, hk, rfl, rfl, hc, rfl⟩ := hrel
    by_cases hlt : k < n
    · have hkl : k < l.length := by have := Hn.out; omega
      obtain ⟨b, off, rfl, d0, hsx⟩ := Hg.out k hkl
      obtain ⟨x, hx⟩ : ∃ x, x = l[k] := ⟨_, rfl⟩
      rw [← hx] at d0 hsx
      obtain ⟨q, hq⟩ : ∃ q, q = min x.size 9000 := ⟨_, rfl⟩
      have hq9 : q ≤ 9000 := by omega
      have k5 : (0 : Int) ≤ (k : Int) := by omega
      have k6 : (k : Int) < (n : Int) := by omega
      clear hx hkl
      by_cases hbig : 9000 < c + (1 + q)
      · have k7 : decide ((9000 : Int) < (c : Int) + (1 + (q : Int))) = true := by simp; omega
        go_wp2_with fail
        go_ret
        exact ⟨⟨_, rfl⟩, rfl⟩
      · have k7 : decide ((9000 : Int) < (c : Int) + (1 + (q : Int))) = false := by simp; omega
        go_wp2_with fail
        go_roundw
        case rel => exact ⟨k + 1, c + (1 + q), by omega, by go_num, by rw [show (c : Int) + (1 + min (x.size : Int) 9000) = ((c + (1 + q) : Nat) : Int) by omega], by omega, by first | rfl | trivial⟩
        case measure => simp [intOf]; omega
    · obtain rfl : k = n := by omega
      go_wp2_with fail
      go_ret
      exact ⟨⟨_, rfl⟩, rfl⟩
set_option maxRecDepth 10000 in
set_option maxHeartbeats 1000000 in
theorem greatVars_any {w : World} {v : Value} {l : List Var} (h : RVars w [v] l) : Calls Try.prog 21 #[v] w fun e w' => (∃ r, e = .returned (.bool r) ∧ (r = false → l.length ≤ 20 ∧ ∀ x ∈ l, x.2.length ≤ 20)) ∧ w = w' := by
  obtain ⟨a, cap, rfl, hz, g⟩ := vars_open h
  obtain ⟨n, hn⟩ : ∃ n, n = l.length := ⟨_, rfl⟩
  rw [← hn] at hz h ⊢
  have Hh := Lib.hid h; have Hg := Lib.hid g; have Hn := Lib.hid hn; clear h g hn
  go_enter Try.func21, Try.ntmps21
  by_cases h20 : 20 < n
  · have k1 : decide ((20 : Int) < (n : Int)) = true := by simp; omega
    go_wp2_with fail
    go_ret
    exact ⟨⟨true, rfl, fun h => by cases h⟩, rfl⟩
  · have k1 : decide ((20 : Int) < (n : Int)) = false := by simp; omega
    have h20' : n ≤ 20 := by omega
    go_wp2_with fail
    clear k1 h20
    go_loopw [9] (fun i wr => ∃ k : Nat, k ≤ n ∧ i = .int .i64 k ∧ (∀ x ∈ l.take k, x.2.length ≤ 20) ∧ w = wr) (fun i _ => n - (intOf i).toNat)
    case atStart => exact ⟨0, Nat.zero_le _, rfl, by simp, rfl⟩
    case round =>
      obtain ⟨k, hk, rfl, hall, rfl⟩ := hrel
      by_cases hlt : k < n
      · have hkl : k < l.length := by have := Hn.out; omega
        obtain ⟨b, off, u, rfl, d0, d1, hsx, hu⟩ := Hg.out k hkl
        obtain ⟨x, hx⟩ : ∃ x, x = l[k] := ⟨_, rfl⟩
        rw [← hx] at d0 hu hsx
        obtain ⟨ua, uc, rfl, hz2, _⟩ := strs_open hu
        have hG := great01_any hu
        obtain ⟨m, hm⟩ : ∃ m, m = x.2.length := ⟨_, rfl⟩
        rw [← hm] at d1 hu hz2 hG
        have hnext : m ≤ 20 → ∀ y ∈ l.take (k + 1), y.2.length ≤ 20 := fun h y hy => by
          rw [List.take_succ_eq_append_getElem hkl, ← hx] at hy
          rcases List.mem_append.1 hy with hy | hy
          · exact hall y hy
          · simp at hy; subst hy; omega
        obtain ⟨s, hs⟩ : ∃ s, s = x.1 := ⟨_, rfl⟩
        rw [← hs] at d0 hsx
        have k5 : (0 : Int) ≤ (k : Int) := by omega
        have k6 : (k : Int) < (n : Int) := by omega
        clear hx hkl
        have Hall := Lib.hid hall; have Hu := Lib.hid hu; have HG := Lib.hid hG; have Hm := Lib.hid hm; have Hs := Lib.hid hs; have Hnext := Lib.hid hnext; clear hall hu hG hm hs hnext
        by_cases h100 : 100 < s.size
        · have k7 : decide ((100 : Int) < (s.size : Int)) = true := by simp; omega
          go_wp2_with fail
          go_ret
          exact ⟨⟨true, rfl, fun h => by cases h⟩, rfl⟩
        · have k7 : decide ((100 : Int) < (s.size : Int)) = false := by simp; omega
          by_cases hm20 : 20 < m
          · have k8 : decide ((20 : Int) < (m : Int)) = true := by simp; omega
            go_wp2_with fail
            go_ret
            exact ⟨⟨true, rfl, fun h => by cases h⟩, rfl⟩
          · have k8 : decide ((20 : Int) < (m : Int)) = false := by simp; omega
            have hnx := Hnext.out (by omega)
            have Hnx := Lib.hid hnx; clear hnx
            go_wp2_with fail
            refine HG.out.mono ?_
            rintro e w1 ⟨⟨r, rfl⟩, rfl⟩
            cases r with
            | true =>
              go_wp2_with fail
              go_ret
              exact ⟨⟨true, rfl, fun h => by cases h⟩, rfl⟩
            | false =>
              go_wp2_with fail
              go_roundw
              case rel => exact ⟨k + 1, by omega, by go_num, Hnx.out, by first | rfl | trivial⟩
              case measure => simp [intOf]; omega
      · obtain rfl : k = n := by omega
        have e : l.take k = l := List.take_of_length_le (by have := Hn.out; omega)
        rw [e] at hall
        have hfin : k ≤ 20 ∧ ∀ x ∈ l, x.2.length ≤ 20 := ⟨h20', hall⟩
        clear e hall
        have Hfin := Lib.hid hfin; clear hfin
        go_wp2_with fail
        go_ret
        exact ⟨⟨false, rfl, fun _ => Hfin.out⟩, rfl⟩
end Go.Proofs.Ytnelgellbabkoaa

/- Plain facts: what the walks of the stable sort do to an array, told by lists: swaps, exchanges of runs, rotations, binary search, symMerge. -/
namespace Go.Proofs.Ytnelgellbabkoaa.StbA
open Go.Sort Go.Proofs.Ytnelgellbabkoaa.SortM
variable {α : Type}
theorem set_mid (p q : List α) (x y : α) (i : Nat) (hi : i = p.length) : (p ++ x :: q).set i y = p ++ y :: q := by subst hi; simp
/-- where a rotation stands: i elements ahead of m and j behind it are still to be exchanged -/
def RInv (tgt : List α) (m i j : Nat) (d : Array α) : Prop := ∃ p u v q, d.toList = p ++ u ++ v ++ q ∧ u.length = i ∧ v.length = j ∧ p.length + i = m ∧ tgt = p ++ v ++ u ++ q
theorem RInv.start {d : Array α} {p u v q : List α} (h : d.toList = p ++ u ++ v ++ q) {m i j : Nat} (hi : i = u.length) (hj : j = v.length) (hm : m = p.length + u.length) : RInv (p ++ v ++ u ++ q) m i j d := ⟨p, u, v, q, h, hi.symm, hj.symm, by omega, rfl⟩
theorem RInv.size {tgt : List α} {m i j : Nat} {d : Array α} (h : RInv tgt m i j d) : d.size = tgt.length := by
  obtain ⟨p, u, v, q, h1, _, _, _, h5⟩ := h
  rw [← Array.length_toList, h1, h5]; simp; omega
theorem RInv.le {tgt : List α} {m i j : Nat} {d : Array α} (h : RInv tgt m i j d) : i ≤ m ∧ m + j ≤ d.size := by
  obtain ⟨p, u, v, q, h1, h2, h3, h4, h5⟩ := h
  rw [← Array.length_toList, h1]; simp; omega
theorem swo_of {lt : α → α → Bool} (h : Swo lt) : SWO lt := ⟨irrefl h, fun x y z h1 h2 => by
    cases e : lt x z
    · have := h.ntrans y z x (h.asymm _ _ h2) e
      rw [h1] at this; cases this
    · rfl, fun x y z h1 h2 => h.ntrans z y x h2 h1⟩
variable [Inhabited α]
theorem get_of {d : Array α} {p q : List α} {x : α} (h : d.toList = p ++ x :: q) {i : Nat} (hi : i = p.length) : d[i]! = x := by
  subst hi
  have hl : p.length < d.size := by rw [← Array.length_toList, h]; simp
  rw [getElem!_pos d _ hl, ← Array.getElem_toList]
  simp [h]
theorem get_list (d : Array α) (i : Nat) : d[i]! = d.toList[i]! := by
  by_cases h : i < d.size
  · rw [getElem!_pos d _ h, getElem!_pos d.toList _ (by simpa using h), Array.getElem_toList]
  · rw [getElem!_neg d _ h, getElem!_neg d.toList _ (by simpa using h)]
theorem toList_swp (d : Array α) (i j : Nat) : (swp d i j).toList = (d.toList.set i d[j]!).set j d[i]! := by simp [swp]
theorem swp_split {d : Array α} {p m q : List α} {x y : α} (h : d.toList = p ++ x :: (m ++ y :: q)) {i j : Nat} (hi : i = p.length) (hj : j = p.length + 1 + m.length) : (swp d i j).toList = p ++ y :: (m ++ x :: q) := by
  have h1 : d[i]! = x := get_of h hi
  have h2 : d[j]! = y := get_of (p := p ++ x :: m) (q := q) (by rw [h]; simp) (by simp; omega)
  rw [toList_swp, h1, h2, h, set_mid p _ x y i hi]
  have e : p ++ y :: (m ++ y :: q) = (p ++ y :: m) ++ y :: q := by simp
  rw [e, set_mid _ _ _ _ _ (by simp; omega)]
  simp
theorem swp_comm (d : Array α) (i j : Nat) : swp d i j = swp d j i := by
  apply Array.ext'
  rw [toList_swp, toList_swp]
  by_cases h : i = j
  · subst h; rfl
  · exact List.set_comm _ _ h
theorem swp_split' {d : Array α} {p m q : List α} {x y : α} (h : d.toList = p ++ x :: (m ++ y :: q)) {i j : Nat} (hi : i = p.length) (hj : j = p.length + 1 + m.length) : (swp d j i).toList = p ++ y :: (m ++ x :: q) := by
  rw [swp_comm]; exact swp_split h hi hj

/-- n exchanges: a with b, a + 1 with b + 1, .. -/
def swr (d : Array α) (a b : Nat) : Nat → Array α
  | 0 => d
  | i + 1 => swp (swr d a b i) (a + i) (b + i)
theorem size_swr (d : Array α) (a b n : Nat) : (swr d a b n).size = d.size := by
  induction n with
  | zero => rfl
  | succ n ih => rw [swr, size_swp, ih]
theorem swr_rev (d : Array α) : ∀ (x y p m q : List α), x.length = y.length → d.toList = p ++ x.reverse ++ m ++ y.reverse ++ q → (swr d p.length (p.length + x.length + m.length) x.length).toList = p ++ y.reverse ++ m ++ x.reverse ++ q := by
  intro x
  induction x with
  | nil =>
    intro y p m q hl h
    obtain rfl : y = [] := List.eq_nil_of_length_eq_zero hl.symm
    exact h
  | cons u x ih =>
    intro y p m q hl h
    match y with
    | [] => simp at hl
    | v :: y =>
      have hl' : x.length = y.length := by simpa using hl
      have h1 := ih y p (u :: m) (v :: q) hl' (by rw [h]; simp)
      have e : p.length + (u :: x).length + m.length = p.length + x.length + (u :: m).length := by simp; omega
      rw [e, show (u :: x).length = x.length + 1 from rfl, swr]
      have h2 := swp_split (d := swr d p.length (p.length + x.length + (u :: m).length) x.length) (p := p ++ y.reverse) (m := m ++ x.reverse) (q := q) (x := u) (y := v) (by rw [h1]; simp) (i := p.length + x.length) (j := p.length + x.length + (u :: m).length + x.length) (by simp; omega) (by simp; omega)
      rw [h2]; simp
theorem swr_split {d : Array α} {p x m y q : List α} (hl : x.length = y.length) (h : d.toList = p ++ x ++ m ++ y ++ q) {a b n : Nat} (ha : a = p.length) (hb : b = p.length + x.length + m.length) (hn : n = x.length) : (swr d a b n).toList = p ++ y ++ m ++ x ++ q := by
  subst ha hb hn
  have := swr_rev d x.reverse y.reverse p m q (by simpa using hl) (by simpa using h)
  simpa using this

theorem RInv.gt {tgt : List α} {m i j : Nat} {d : Array α} (h : RInv tgt m i j d) (hij : j < i) : RInv tgt m (i - j) j (swr d (m - i) m j) := by
  obtain ⟨p, u, v, q, h1, h2, h3, h4, h5⟩ := h
  have hu : u = u.take j ++ u.drop j := (List.take_append_drop _ _).symm
  have hx : (u.take j).length = j := by simp; omega
  have hy : (u.drop j).length = i - j := by simp; omega
  generalize u.take j = x at hu hx
  generalize u.drop j = y at hu hy
  subst hu
  refine ⟨p ++ v, y, x, q, ?_, hy, hx, by simp; omega, by rw [h5]; simp⟩
  have := swr_split (d := d) (p := p) (x := x) (m := y) (y := v) (q := q) (by omega) (by rw [h1]; simp) (a := m - i) (b := m) (n := j) (by omega) (by simp at h2; omega) hx.symm
  rw [this]
theorem RInv.lt {tgt : List α} {m i j : Nat} {d : Array α} (h : RInv tgt m i j d) (hij : i < j) : RInv tgt m i (j - i) (swr d (m - i) (m + j - i) i) := by
  obtain ⟨p, u, v, q, h1, h2, h3, h4, h5⟩ := h
  have hv : v = v.take (j - i) ++ v.drop (j - i) := (List.take_append_drop _ _).symm
  have hx : (v.take (j - i)).length = j - i := by simp; omega
  have hy : (v.drop (j - i)).length = i := by simp; omega
  generalize v.take (j - i) = x at hv hx
  generalize v.drop (j - i) = y at hv hy
  subst hv
  refine ⟨p, y, x, u ++ q, ?_, hy, hx, by omega, by rw [h5]; simp⟩
  have := swr_split (d := d) (p := p) (x := u) (m := x) (y := y) (q := q) (by omega) (by rw [h1]; simp) (a := m - i) (b := m + j - i) (n := i) (by omega) (by omega) h2.symm
  rw [this]; simp
theorem RInv.eq {tgt : List α} {m i : Nat} {d : Array α} (h : RInv tgt m i i d) : (swr d (m - i) m i).toList = tgt := by
  obtain ⟨p, u, v, q, h1, h2, h3, h4, h5⟩ := h
  rw [h5]
  have := swr_split (d := d) (p := p) (x := u) (m := []) (y := v) (q := q) (by omega) (by rw [h1]; simp) (a := m - i) (b := m) (n := i) (by omega) (by simp; omega) h2.symm
  rw [this]; simp
/-- an element is carried n places up, or down -/
def upN (d : Array α) (a : Nat) : Nat → Array α
  | 0 => d
  | n + 1 => swp (upN d a n) (a + n) (a + n + 1)
def dnN (d : Array α) (m : Nat) : Nat → Array α
  | 0 => d
  | n + 1 => swp (dnN d m n) (m - n) (m - n - 1)
theorem size_upN (d : Array α) (a n : Nat) : (upN d a n).size = d.size := by
  induction n with
  | zero => rfl
  | succ n ih => rw [upN, size_swp, ih]
theorem size_dnN (d : Array α) (a n : Nat) : (dnN d a n).size = d.size := by
  induction n with
  | zero => rfl
  | succ n ih => rw [dnN, size_swp, ih]
theorem upN_rev (d : Array α) (x : α) (p : List α) : ∀ (v q : List α), d.toList = p ++ x :: (v.reverse ++ q) → (upN d p.length v.length).toList = p ++ v.reverse ++ x :: q := by
  intro v
  induction v with
  | nil => intro q h; simpa [upN] using h
  | cons y v ih =>
    intro q h
    have h1 := ih (y :: q) (by rw [h]; simp)
    have h2 := swp_split (d := upN d p.length v.length) (p := p ++ v.reverse) (m := []) (q := q) (x := x) (y := y) (by rw [h1]; simp) (i := p.length + v.length) (j := p.length + v.length + 1) (by simp) (by simp)
    rw [show (y :: v).length = v.length + 1 from rfl, upN, h2]; simp
theorem upN_split {d : Array α} {x : α} {p v q : List α} (h : d.toList = p ++ x :: (v ++ q)) {a n : Nat} (ha : a = p.length) (hn : n = v.length) : (upN d a n).toList = p ++ v ++ x :: q := by
  subst ha hn
  have := upN_rev d x p v.reverse q (by simpa using h)
  simpa using this
theorem dnN_split' (d : Array α) (x : α) (q : List α) (m : Nat) : ∀ (v p : List α), m = p.length + v.length → d.toList = p ++ v ++ x :: q → (dnN d m v.length).toList = p ++ x :: (v ++ q) := by
  intro v
  induction v with
  | nil => intro p _ h; simpa [dnN] using h
  | cons y v ih =>
    intro p hm h
    have hm' : m = p.length + (v.length + 1) := by simpa using hm
    have h1 := ih (p ++ [y]) (by simp; omega) (by rw [h]; simp)
    have h2 := swp_split' (d := dnN d m v.length) (p := p) (m := []) (q := v ++ q) (x := y) (y := x) (by rw [h1]; simp) (i := m - v.length - 1) (j := m - v.length) (by omega) (by simp; omega)
    rw [show (y :: v).length = v.length + 1 from rfl, dnN, h2]; simp
theorem dnN_split {d : Array α} {x : α} {p v q : List α} (h : d.toList = p ++ v ++ x :: q) {m n : Nat} (hm : m = p.length + v.length) (hn : n = v.length) : (dnN d m n).toList = p ++ x :: (v ++ q) := by
  subst hn; exact dnN_split' d x q m v p hm h

/-- where a binary search stands -/
structure BS (f : Nat → Bool) (lo hi i j : Nat) : Prop where
  l1 : lo ≤ i
  l2 : i ≤ j
  l3 : j ≤ hi
  yes : ∀ c, lo ≤ c → c < i → f c = true
  no : ∀ c, j ≤ c → c < hi → f c = false
def Mono (f : Nat → Bool) (lo hi : Nat) : Prop := ∀ c c', lo ≤ c' → c' ≤ c → c < hi → f c = true → f c' = true
theorem BS.start (f : Nat → Bool) {lo hi : Nat} (h : lo ≤ hi) : BS f lo hi lo hi := ⟨Nat.le_refl _, h, Nat.le_refl _, fun _ _ _ => by omega, fun _ _ _ => by omega⟩
theorem BS.left {f : Nat → Bool} {lo hi i j h : Nat} (hM : Mono f lo hi) (hB : BS f lo hi i j) (h1 : i ≤ h) (h2 : h < j) (hf : f h = true) : BS f lo hi (h + 1) j :=
  ⟨by have := hB.l1; omega, h2, hB.l3, fun c hc1 hc2 => hM h c hc1 (by omega) (by have := hB.l3; omega) hf, hB.no⟩
theorem BS.right {f : Nat → Bool} {lo hi i j h : Nat} (hM : Mono f lo hi) (hB : BS f lo hi i j) (h1 : i ≤ h) (h2 : h < j) (hf : f h = false) : BS f lo hi i h :=
  ⟨hB.l1, h1, by have := hB.l3; omega, hB.yes, fun c hc1 hc2 => by
    cases e : f c
    · rfl
    · have := hM c h (by have := hB.l1; omega) hc1 hc2 e; rw [hf] at this; cases this⟩

variable {lt : α → α → Bool}
/-- a part of the row that is sorted -/
def SortedIx (lt : α → α → Bool) (a b : Nat) (d : Array α) : Prop := ∀ i j, a ≤ i → i ≤ j → j < b → lt d[j]! d[i]! = false
theorem sortedIx_of (h : Swo lt) {d : Array α} {p u q : List α} (hd : d.toList = p ++ u ++ q) (hu : Sorted lt u) {a b : Nat} (ha : a = p.length) (hb : b = p.length + u.length) : SortedIx lt a b d := by
  intro i j hi hij hj
  rcases Nat.lt_or_eq_of_le hij with hij | rfl
  · have hs := List.pairwise_iff_getElem.1 hu (i - a) (j - a) (by omega) (by omega) (by omega)
    have g : ∀ k, (hk : k - a < u.length) → a ≤ k → d[k]! = u[k - a] := fun k hk h1 => by
      refine get_of (p := p ++ u.take (k - a)) (q := u.drop (k - a + 1) ++ q) ?_ (by simp; omega)
      rw [hd]
      conv => lhs; rw [← List.take_append_drop (k - a) u, List.drop_eq_getElem_cons hk]
      simp only [List.append_assoc, List.cons_append]
    rw [g i (by omega) hi, g j (by omega) (by omega)]; exact hs
  · exact irrefl h _
theorem get_in {d : Array α} {p u q : List α} (hd : d.toList = p ++ u ++ q) (k : Nat) (hk : k < u.length) : d[p.length + k]! = u[k] := by
  refine get_of (p := p ++ u.take k) (q := u.drop (k + 1) ++ q) ?_ (by simp; omega)
  rw [hd]
  conv => lhs; rw [← List.take_append_drop k u, List.drop_eq_getElem_cons hk]
  simp only [List.append_assoc, List.cons_append]

/-! one element ahead of a sorted run -/
theorem mono_left (h : Swo lt) {d : Array α} {a m b : Nat} (hs : SortedIx lt m b d) : Mono (fun c => lt d[c]! d[a]!) m b := by
  intro c c' h1 h2 h3 hc
  show lt d[c']! d[a]! = true
  cases e : lt d[c']! d[a]!
  · have := h.ntrans _ _ _ e (hs c' c h1 h2 h3)
    rw [show lt d[c]! d[a]! = true from hc] at this; cases this
  · rfl
theorem one_left (h : Swo lt) {d : Array α} {p v q : List α} {x : α} (hd : d.toList = p ++ x :: (v ++ q)) (hv : Sorted lt v) {a m b i : Nat} (ha : a = p.length) (hm : m = a + 1) (hb : b = m + v.length) (hB : BS (fun c => lt d[c]! d[a]!) m b i i) :
    (upN d a (i - 1 - a)).toList = p ++ ssort lt (x :: v) ++ q := by
  have hx : d[a]! = x := get_of hd ha
  have hd2 : d.toList = (p ++ [x]) ++ v ++ q := by rw [hd]; simp
  have hg : ∀ k, (hk : k < v.length) → d[m + k]! = v[k] := fun k hk => by
    have := get_in hd2 k hk
    rw [show (p ++ [x]).length + k = m + k from by simp; omega] at this; exact this
  have hi1 := hB.l1
  have hi2 := hB.l3
  have e1 : ∀ y ∈ v.take (i - m), lt y x = true := fun y hy => by
    obtain ⟨k, hk, rfl⟩ := List.getElem_of_mem hy
    simp only [List.length_take] at hk
    have := hB.yes (m + k) (by omega) (by omega)
    rw [hg k (by omega), hx] at this
    simpa using this
  have e2 : ∀ y ∈ v.drop (i - m), lt y x = false := fun y hy => by
    obtain ⟨k, hk, rfl⟩ := List.getElem_of_mem hy
    simp only [List.length_drop] at hk
    have := hB.no (m + (i - m + k)) (by omega) (by omega)
    rw [hg _ (by omega), hx] at this
    simpa using this
  have hsplit : v = v.take (i - m) ++ v.drop (i - m) := (List.take_append_drop _ _).symm
  have hl : (v.take (i - m)).length = i - m := by simp; omega
  generalize v.take (i - m) = v1 at *
  generalize v.drop (i - m) = v2 at *
  subst hsplit
  have hu := upN_split (d := d) (x := x) (p := p) (v := v1) (q := v2 ++ q) (by rw [hd]; simp) (a := a) (n := i - 1 - a) ha (by omega)
  rw [hu]
  have hp := List.pairwise_append.1 hv
  have : v1 ++ x :: v2 = ssort lt (x :: (v1 ++ v2)) := by
    apply ssort_eq h
    · have := (Sw.over (lt := lt) x v1 e1).ctx [] v2
      simpa using this
    · refine List.pairwise_append.2 ⟨hp.1, List.pairwise_cons.2 ⟨e2, hp.2.1⟩, fun y hy z hz => ?_⟩
      rcases List.mem_cons.1 hz with e | hz
      · rw [e]; exact h.asymm _ _ (e1 y hy)
      · exact hp.2.2 y hy z hz
  rw [← this]; simp
/-! one element behind a sorted run -/
theorem mono_right (h : Swo lt) {d : Array α} {a m : Nat} (hs : SortedIx lt a m d) : Mono (fun c => !lt d[m]! d[c]!) a m := by
  intro c c' h1 h2 h3 hc
  have hc' : lt d[m]! d[c]! = false := by simpa using hc
  show (!lt d[m]! d[c']!) = true
  rw [h.ntrans _ _ _ (hs c' c h1 h2 h3) hc']; rfl
theorem one_right (h : Swo lt) {d : Array α} {p u q : List α} {x : α} (hd : d.toList = p ++ u ++ x :: q) (hu : Sorted lt u) {a m i : Nat} (ha : a = p.length) (hm : m = a + u.length) (hB : BS (fun c => !lt d[m]! d[c]!) a m i i) :
    (dnN d m (m - i)).toList = p ++ ssort lt (u ++ [x]) ++ q := by
  have hx : d[m]! = x := get_of hd (by simp; omega)
  have hg : ∀ k, (hk : k < u.length) → d[a + k]! = u[k] := fun k hk => by
    have := get_in (q := x :: q) hd k hk
    rw [ha]; exact this
  have hi1 := hB.l1
  have hi2 := hB.l3
  have e1 : ∀ y ∈ u.take (i - a), lt x y = false := fun y hy => by
    obtain ⟨k, hk, rfl⟩ := List.getElem_of_mem hy
    simp only [List.length_take] at hk
    have := hB.yes (a + k) (by omega) (by omega)
    simp only [hg k (by omega), hx] at this
    simpa using this
  have e2 : ∀ y ∈ u.drop (i - a), lt x y = true := fun y hy => by
    obtain ⟨k, hk, rfl⟩ := List.getElem_of_mem hy
    simp only [List.length_drop] at hk
    have := hB.no (a + (i - a + k)) (by omega) (by omega)
    simp only [hg _ (show i - a + k < u.length by omega), hx] at this
    simpa using this
  have hsplit : u = u.take (i - a) ++ u.drop (i - a) := (List.take_append_drop _ _).symm
  have hl : (u.take (i - a)).length = i - a := by simp; omega
  have hl2 : (u.drop (i - a)).length = m - i := by simp; omega
  generalize u.take (i - a) = v1 at *
  generalize u.drop (i - a) = v2 at *
  subst hsplit
  have hdn := dnN_split (d := d) (x := x) (p := p ++ v1) (v := v2) (q := q) (by rw [hd]; simp) (m := m) (n := m - i) (by simp; omega) hl2.symm
  rw [hdn]
  have hp := List.pairwise_append.1 hu
  have : v1 ++ x :: v2 = ssort lt (v1 ++ v2 ++ [x]) := by
    apply ssort_eq h
    · have := (Sw.blocks (lt := lt) v2 [x] (fun a ha b hb => by simp at hb; subst hb; exact e2 a ha)).ctx v1 []
      simpa using this
    · refine List.pairwise_append.2 ⟨hp.1, List.pairwise_cons.2 ⟨fun y hy => h.asymm _ _ (e2 y hy), hp.2.1⟩, fun y hy z hz => ?_⟩
      rcases List.mem_cons.1 hz with e | hz
      · rw [e]; exact e1 y hy
      · exact hp.2.2 y hy z hz
  rw [← this]; simp
/-! the general cut -/
theorem mono_sym (h : Swo lt) {d : Array α} {a m b n lo hi : Nat} (hs1 : SortedIx lt a m d) (hs2 : SortedIx lt m b d) (h1 : a ≤ lo) (h2 : hi ≤ m) (h3 : n - hi ≥ m) (h4 : n - 1 - lo < b) (h5 : hi ≤ n) : Mono (fun c => !lt d[n - 1 - c]! d[c]!) lo hi := by
  intro c c' k1 k2 k3 hc
  have hc' : lt d[n - 1 - c]! d[c]! = false := by simpa using hc
  show (!lt d[n - 1 - c']! d[c']!) = true
  have e1 : lt d[c]! d[c']! = false := hs1 c' c (by omega) k2 (by omega)
  have e2 : lt d[n - 1 - c']! d[n - 1 - c]! = false := hs2 (n - 1 - c) (n - 1 - c') (by omega) (by omega) (by omega)
  rw [h.ntrans _ _ _ (h.ntrans _ _ _ e1 hc') e2]; rfl
theorem sym_cut (h : Swo lt) {d : Array α} {p u v q : List α} (hd : d.toList = p ++ u ++ v ++ q) (hu : Sorted lt u) (hv : Sorted lt v) {a m b mid n lo hi s : Nat} (ha : a = p.length) (hm : m = a + u.length) (hb : b = m + v.length)
    (hmid : mid = (a + b) / 2) (hn : n = mid + m) (hab : a < b) (hlo : (mid < m → lo = n - b ∧ hi = mid) ∧ (¬ mid < m → lo = a ∧ hi = m)) (hB : BS (fun c => !lt d[n - 1 - c]! d[c]!) lo hi s s) :
    ∃ l1 l2 r1 r2, u = l1 ++ l2 ∧ v = r1 ++ r2 ∧ a + l1.length = s ∧ m + r1.length = n - s ∧ ssort lt (u ++ v) = ssort lt (l1 ++ r1) ++ ssort lt (l2 ++ r2) := by
  have hs1 := hB.l1
  have hs3 := hB.l3
  have b1 : a ≤ s ∧ s ≤ m ∧ m ≤ n - s ∧ n - s ≤ b := by
    by_cases hc : mid < m
    · obtain ⟨rfl, rfl⟩ := hlo.1 hc; omega
    · obtain ⟨rfl, rfl⟩ := hlo.2 hc; omega
  have gu : ∀ k, (hk : k < u.length) → d[a + k]! = u[k] := fun k hk => by
    have := get_in (q := v ++ q) (by rw [hd]; simp : d.toList = p ++ u ++ (v ++ q)) k hk
    rw [ha]; exact this
  have gv : ∀ k, (hk : k < v.length) → d[m + k]! = v[k] := fun k hk => by
    have := get_in hd k hk
    rw [show (p ++ u).length + k = m + k from by simp; omega] at this; exact this
  refine ⟨u.take (s - a), u.drop (s - a), v.take (n - s - m), v.drop (n - s - m), (List.take_append_drop _ _).symm, (List.take_append_drop _ _).symm, by simp; omega, by simp; omega, ?_⟩
  have hsU : ∀ i j (hi : i < u.length) (hj : j < u.length), i ≤ j → lt u[j] u[i] = false := fun i j hi hj hij => by
    rcases Nat.lt_or_eq_of_le hij with hij | rfl
    · exact List.pairwise_iff_getElem.1 hu i j hi hj hij
    · exact irrefl h _
  have hsV : ∀ i j (hi : i < v.length) (hj : j < v.length), i ≤ j → lt v[j] v[i] = false := fun i j hi hj hij => by
    rcases Nat.lt_or_eq_of_le hij with hij | rfl
    · exact List.pairwise_iff_getElem.1 hv i j hi hj hij
    · exact irrefl h _
  have hpu : Sorted lt (u.take (s - a) ++ u.drop (s - a)) := by rw [List.take_append_drop]; exact hu
  have hpv : Sorted lt (v.take (n - s - m) ++ v.drop (n - s - m)) := by rw [List.take_append_drop]; exact hv
  have key := ssort_cut h (u.take (s - a)) (u.drop (s - a)) (v.take (n - s - m)) (v.drop (n - s - m)) ?_ (fun x hx y hy => (List.pairwise_append.1 hpu).2.2 x hx y hy) (fun x hx y hy => (List.pairwise_append.1 hpv).2.2 x hx y hy) ?_
  · rw [List.take_append_drop, List.take_append_drop] at key; exact key
  · -- l2 over r1
    intro x hx y hy
    obtain ⟨k, hk, rfl⟩ := List.getElem_of_mem hx
    obtain ⟨j, hj, rfl⟩ := List.getElem_of_mem hy
    simp only [List.length_drop] at hk
    simp only [List.length_take] at hj
    simp only [List.getElem_drop, List.getElem_take]
    -- s < hi
    have hsh : s < hi := by
      by_cases hc : mid < m
      · have := hlo.1 hc; omega
      · have := hlo.2 hc; omega
    have hN := hB.no s (Nat.le_refl _) hsh
    have hN' : lt d[n - 1 - s]! d[s]! = true := by simpa using hN
    have e1 : d[s]! = u[s - a]'(by omega) := by rw [← gu (s - a) (by omega)]; congr 1; omega
    have e2 : d[n - 1 - s]! = v[n - 1 - s - m]'(by omega) := by rw [← gv (n - 1 - s - m) (by omega)]; congr 1; omega
    rw [e1, e2] at hN'
    cases e : lt v[j] u[s - a + k]
    · have h1 := hsU (s - a) (s - a + k) (by omega) (by omega) (by omega)
      have h2 := hsV j (n - 1 - s - m) (by omega) (by omega) (by omega)
      have h3 := h.ntrans _ _ _ (h.ntrans _ _ _ h1 e) h2
      rw [hN'] at h3; cases h3
    · rfl
  · -- l1 over r2
    intro x hx y hy
    obtain ⟨k, hk, rfl⟩ := List.getElem_of_mem hx
    obtain ⟨j, hj, rfl⟩ := List.getElem_of_mem hy
    simp only [List.length_take] at hk
    simp only [List.length_drop] at hj
    simp only [List.getElem_drop, List.getElem_take]
    have hsh : lo < s := by
      by_cases hc : mid < m
      · have := hlo.1 hc; omega
      · have := hlo.2 hc; omega
    have hN := hB.yes (s - 1) (by omega) (by omega)
    have hN' : lt d[n - 1 - (s - 1)]! d[s - 1]! = false := by simpa using hN
    have e1 : d[s - 1]! = u[s - 1 - a]'(by omega) := by rw [← gu (s - 1 - a) (by omega)]; congr 1; omega
    have e2 : d[n - 1 - (s - 1)]! = v[n - s - m]'(by omega) := by rw [← gv (n - s - m) (by omega)]; congr 1; omega
    rw [e1, e2] at hN'
    have h1 := hsU k (s - 1 - a) (by omega) (by omega) (by omega)
    have h2 := hsV (n - s - m) (n - s - m + j) (by omega) (by omega) (by omega)
    exact h.ntrans _ _ _ (h.ntrans _ _ _ h1 hN') h2

/-! insertion -/
theorem insInner_sw (lt : α → α → Bool) (p q x0 : List α) : ∀ (j : Nat) (d : Array α), j < p.length + x0.length → (∃ x, d.toList = p ++ x ++ q ∧ Sw lt x0 x) → ∃ x, (insInner lt p.length j d).toList = p ++ x ++ q ∧ Sw lt x0 x := by
  intro j
  induction j with
  | zero => intro d _ h; rw [insInner]; exact h
  | succ j ih =>
    intro d hj h
    rw [insInner]
    split
    · rename_i hc
      simp only [Bool.and_eq_true, decide_eq_true_eq] at hc
      refine ih _ (by omega) ?_
      obtain ⟨x, hx, hs⟩ := h
      have hl : x.length = x0.length := hs.perm.length_eq.symm
      have k1 : j - p.length < x.length := by omega
      have k2 : j - p.length + 1 < x.length := by omega
      have e : x = x.take (j - p.length) ++ x[j - p.length] :: x[j - p.length + 1] :: x.drop (j - p.length + 2) := by
        conv => lhs; rw [← List.take_append_drop (j - p.length) x, List.drop_eq_getElem_cons k1, List.drop_eq_getElem_cons k2]
      have g1 : d[j]! = x[j - p.length] := by rw [← get_in hx (j - p.length) k1]; congr 1; omega
      have g2 : d[j + 1]! = x[j - p.length + 1] := by rw [← get_in hx (j - p.length + 1) k2]; congr 1; omega
      have hlt := hc.2
      rw [g1, g2] at hlt
      have hpl : (x.take (j - p.length)).length = j - p.length := by simp; omega
      generalize x.take (j - p.length) = xa at e hpl
      generalize x.drop (j - p.length + 2) = xb at e
      generalize x[j - p.length] = y at *
      generalize x[j - p.length + 1] = z at *
      subst e
      have hsw := swp_split' (d := d) (p := p ++ xa) (m := []) (q := xb ++ q) (x := y) (y := z) (by rw [hx]; simp) (i := j) (j := j + 1) (by simp; omega) (by simp; omega)
      exact ⟨xa ++ z :: y :: xb, by rw [hsw]; simp, .step xa y z xb hs hlt⟩
    · exact h
theorem insOuter_sw (lt : α → α → Bool) (p q x0 : List α) (b : Nat) (hb : b = p.length + x0.length) : ∀ (k i : Nat) (d : Array α), b - i ≤ k → (∃ x, d.toList = p ++ x ++ q ∧ Sw lt x0 x) → ∃ x, (insOuter lt p.length b i d).toList = p ++ x ++ q ∧ Sw lt x0 x := by
  intro k
  induction k with
  | zero => intro i d hk h; rw [insOuter, if_neg (by omega)]; exact h
  | succ k ih =>
    intro i d hk h
    rw [insOuter]
    split
    · exact ih _ _ (by omega) (insInner_sw lt p q x0 i d (by omega) h)
    · exact h
theorem insertion_is (h : Swo lt) {d : Array α} {p x q : List α} (hd : d.toList = p ++ x ++ q) {a b : Nat} (ha : a = p.length) (hb : b = p.length + x.length) : (insertionSort lt d a b).toList = p ++ ssort lt x ++ q := by
  subst ha
  obtain ⟨y, hy, hs⟩ := insOuter_sw lt p q x b hb b (p.length + 1) d (by omega) ⟨x, hd, .refl⟩
  have hsz : b ≤ d.size := by rw [← Array.length_toList, hd]; simp; omega
  have hso := (insertionSort_holds (lt := lt) (swo_of h) d p.length b (by omega) hsz).2
  have hl : y.length = x.length := hs.perm.length_eq.symm
  have : y = ssort lt x := by
    apply ssort_eq h hs
    refine List.pairwise_iff_getElem.2 fun i j hi hj hij => ?_
    have := hso (p.length + i) (p.length + j) (by omega) (by omega) (by omega)
    rw [show insertionSort lt d p.length b = insOuter lt p.length b (p.length + 1) d from rfl, get_in hy i hi, get_in hy j hj] at this
    exact this
  rw [← this]; exact hy
end Go.Proofs.Ytnelgellbabkoaa.StbA

/- Plain facts: the stable sort's blocks: blocks of twenty are sorted, then merged two by two. -/
namespace Go.Proofs.Ytnelgellbabkoaa.StbB
open Go.Sort Go.Proofs.Ytnelgellbabkoaa.SortM Go.Proofs.Ytnelgellbabkoaa.StbA
variable {α : Type} {lt : α → α → Bool}

def P1 (lt : α → α → Bool) (l0 : List α) (bs a : Nat) (d : Array α) : Prop := ∃ (cs : List (List α)) (rest : List α), l0 = cs.flatten ++ rest ∧ d.toList = (cs.map (ssort lt)).flatten ++ rest ∧ (∀ c ∈ cs, c.length = bs) ∧ a = cs.flatten.length
def P2 (lt : α → α → Bool) (l0 : List α) (bs : Nat) (d : Array α) : Prop := ∃ (cs : List (List α)) (rest : List α), l0 = cs.flatten ++ rest ∧ d.toList = (cs.map (ssort lt)).flatten ++ ssort lt rest ∧ (∀ c ∈ cs, c.length = bs) ∧ rest.length < bs
def P3 (lt : α → α → Bool) (l0 : List α) (bs a : Nat) (d : Array α) : Prop := ∃ (ds cs : List (List α)) (rest : List α), l0 = ds.flatten ++ (cs.flatten ++ rest) ∧ d.toList = (ds.map (ssort lt)).flatten ++ ((cs.map (ssort lt)).flatten ++ ssort lt rest) ∧ (∀ c ∈ ds, c.length = 2 * bs) ∧ (∀ c ∈ cs, c.length = bs) ∧ rest.length < bs ∧ a = ds.flatten.length

theorem flat_len (h : Swo lt) (cs : List (List α)) : ((cs.map (ssort lt)).flatten).length = cs.flatten.length := by
  induction cs with
  | nil => rfl
  | cons c cs ih => simp only [List.map_cons, List.flatten_cons, List.length_append, ssort_len h, ih]
theorem ssort_nil : ssort lt ([] : List α) = [] := rfl
theorem P1.start (l0 : List α) (bs : Nat) {d : Array α} (hd : d.toList = l0) : P1 lt l0 bs 0 d := ⟨[], l0, rfl, hd, by simp, rfl⟩
theorem P1.size (h : Swo lt) {l0 : List α} {bs a : Nat} {d : Array α} (hP : P1 lt l0 bs a d) : d.size = l0.length := by
  obtain ⟨cs, rest, h1, h2, _, _⟩ := hP
  rw [← Array.length_toList, h2, h1, List.length_append, List.length_append, flat_len h]
theorem P1.step [Inhabited α] (h : Swo lt) {l0 : List α} {bs a : Nat} {d : Array α} (hP : P1 lt l0 bs a d) (hb : a + bs ≤ l0.length) : P1 lt l0 bs (a + bs) (insertionSort lt d a (a + bs)) := by
  obtain ⟨cs, rest, h1, h2, h3, h4⟩ := hP
  have hl : rest = rest.take bs ++ rest.drop bs := (List.take_append_drop _ _).symm
  have hx : (rest.take bs).length = bs := by simp; rw [h1] at hb; simp at hb; simp at h4; omega
  generalize rest.take bs = x at hl hx
  generalize rest.drop bs = y at hl
  subst hl
  refine ⟨cs ++ [x], y, by rw [h1]; simp, ?_, fun c hc => ?_, by simp only [List.flatten_append, List.length_append, List.flatten_cons, List.flatten_nil, List.append_nil]; omega⟩
  · rw [insertion_is h (d := d) (p := (cs.map (ssort lt)).flatten) (x := x) (q := y) (by rw [h2]; simp) (by rw [flat_len h]; exact h4) (by rw [flat_len h]; omega)]
    simp
  · rcases List.mem_append.1 hc with hc | hc
    · exact h3 c hc
    · simp at hc; subst hc; exact hx
theorem P1.last [Inhabited α] (h : Swo lt) {l0 : List α} {bs a n : Nat} {d : Array α} (hP : P1 lt l0 bs a d) (hn : n = l0.length) (hb : n < a + bs) : P2 lt l0 bs (insertionSort lt d a n) := by
  obtain ⟨cs, rest, h1, h2, h3, h4⟩ := hP
  have hr : n = a + rest.length := by rw [hn, h1, List.length_append]; omega
  refine ⟨cs, rest, h1, ?_, h3, by omega⟩
  rw [insertion_is h (d := d) (p := (cs.map (ssort lt)).flatten) (x := rest) (q := []) (by rw [h2]; simp) (by rw [flat_len h]; exact h4) (by rw [flat_len h]; omega)]
  simp
theorem P1.le {l0 : List α} {bs a : Nat} {d : Array α} (hP : P1 lt l0 bs a d) : a ≤ l0.length := by
  obtain ⟨cs, rest, h1, h2, h3, h4⟩ := hP
  rw [h1, List.length_append]; omega
theorem P2.size (h : Swo lt) {l0 : List α} {bs : Nat} {d : Array α} (hP : P2 lt l0 bs d) : d.size = l0.length := by
  obtain ⟨cs, rest, h1, h2, _, _⟩ := hP
  rw [← Array.length_toList, h2, h1, List.length_append, List.length_append, flat_len h, ssort_len h]
theorem P3.start {l0 : List α} {bs : Nat} {d : Array α} (hP : P2 lt l0 bs d) : P3 lt l0 bs 0 d := by
  obtain ⟨cs, rest, h1, h2, h3, h4⟩ := hP
  exact ⟨[], cs, rest, h1, h2, by simp, h3, h4, rfl⟩
theorem P3.size (h : Swo lt) {l0 : List α} {bs a : Nat} {d : Array α} (hP : P3 lt l0 bs a d) : d.size = l0.length ∧ a ≤ d.size := by
  obtain ⟨ds, cs, rest, h1, h2, _, _, _, h3⟩ := hP
  have e1 : d.size = ds.flatten.length + (cs.flatten.length + rest.length) := by rw [← Array.length_toList, h2, List.length_append, List.length_append, flat_len h, flat_len h, ssort_len h]
  have e2 : l0.length = ds.flatten.length + (cs.flatten.length + rest.length) := by rw [h1, List.length_append, List.length_append]
  omega
theorem P3.step (h : Swo lt) {l0 : List α} {bs a : Nat} {d : Array α} (hP : P3 lt l0 bs a d) (hb : a + 2 * bs ≤ l0.length) (h0 : 0 < bs) :
    ∃ p u v q, d.toList = p ++ u ++ v ++ q ∧ Sorted lt u ∧ Sorted lt v ∧ a = p.length ∧ u.length = bs ∧ v.length = bs ∧ ∀ d' : Array α, d'.toList = p ++ ssort lt (u ++ v) ++ q → P3 lt l0 bs (a + 2 * bs) d' := by
  obtain ⟨ds, cs, rest, h1, h2, h3, h4, h5, h6⟩ := hP
  have hl : l0.length = a + (cs.flatten.length + rest.length) := by rw [h1, List.length_append, List.length_append, h6]
  match cs with
  | [] => simp at hl; omega
  | [c] => have := h4 c (by simp); simp at hl; omega
  | c1 :: c2 :: cs =>
    have k1 := h4 c1 (by simp)
    have k2 := h4 c2 (by simp)
    refine ⟨(ds.map (ssort lt)).flatten, ssort lt c1, ssort lt c2, (cs.map (ssort lt)).flatten ++ ssort lt rest, by rw [h2]; simp, ssort_sorted h _, ssort_sorted h _, by rw [flat_len h]; exact h6, by rw [ssort_len h]; exact k1, by rw [ssort_len h]; exact k2, fun d' hd' => ?_⟩
    refine ⟨ds ++ [c1 ++ c2], cs, rest, by rw [h1]; simp, ?_, fun c hc => ?_, fun c hc => h4 c (by simp [hc]), h5, by simp only [List.flatten_append, List.length_append, List.flatten_cons, List.flatten_nil, List.append_nil]; omega⟩
    · rw [hd', ssort_app h]; simp
    · rcases List.mem_append.1 hc with hc | hc
      · exact h3 c hc
      · simp at hc; subst hc; rw [List.length_append]; omega
theorem P3.last1 (h : Swo lt) {l0 : List α} {bs a n : Nat} {d : Array α} (hP : P3 lt l0 bs a d) (hn : n = l0.length) (hb : n < a + 2 * bs) (hm : a + bs < n) :
    ∃ p u v, d.toList = p ++ u ++ v ++ [] ∧ Sorted lt u ∧ Sorted lt v ∧ a = p.length ∧ u.length = bs ∧ a + bs + v.length = n ∧ ∀ d' : Array α, d'.toList = p ++ ssort lt (u ++ v) ++ [] → P2 lt l0 (2 * bs) d' := by
  obtain ⟨ds, cs, rest, h1, h2, h3, h4, h5, h6⟩ := hP
  have hl : n = a + (cs.flatten.length + rest.length) := by rw [hn, h1, List.length_append, List.length_append, h6]
  match cs with
  | [] => simp at hl; omega
  | c1 :: c2 :: cs =>
    have k1 := h4 c1 (by simp)
    have k2 := h4 c2 (by simp)
    simp at hl; omega
  | [c] =>
    have k1 := h4 c (by simp)
    have hl' : n = a + (c.length + rest.length) := by simpa using hl
    refine ⟨(ds.map (ssort lt)).flatten, ssort lt c, ssort lt rest, by rw [h2]; simp, ssort_sorted h _, ssort_sorted h _, by rw [flat_len h]; exact h6, by rw [ssort_len h]; exact k1, by rw [ssort_len h]; omega, fun d' hd' => ?_⟩
    refine ⟨ds, c ++ rest, by rw [h1]; simp, ?_, h3, by rw [List.length_append]; omega⟩
    rw [hd', ssort_app h]; simp
theorem P3.last2 {l0 : List α} {bs a n : Nat} {d : Array α} (hP : P3 lt l0 bs a d) (hn : n = l0.length) (hb : n < a + 2 * bs) (hm : ¬ a + bs < n) (h0 : 0 < bs) : P2 lt l0 (2 * bs) d := by
  obtain ⟨ds, cs, rest, h1, h2, h3, h4, h5, h6⟩ := hP
  have hl : n = a + (cs.flatten.length + rest.length) := by rw [hn, h1, List.length_append, List.length_append, h6]
  match cs with
  | [] => exact ⟨ds, rest, by rw [h1]; simp, by rw [h2]; simp, h3, by omega⟩
  | c1 :: c2 :: cs =>
    have k1 := h4 c1 (by simp)
    have k2 := h4 c2 (by simp)
    simp at hl; omega
  | [c] =>
    have k1 := h4 c (by simp)
    have hl' : n = a + (c.length + rest.length) := by simpa using hl
    have hr : rest = [] := List.eq_nil_of_length_eq_zero (by omega)
    subst hr
    exact ⟨ds, c, by rw [h1]; simp, by rw [h2, ssort_nil]; simp, h3, by omega⟩
theorem P2.done {l0 : List α} {bs : Nat} {d : Array α} (hP : P2 lt l0 bs d) (hb : ¬ bs < l0.length) : d.toList = ssort lt l0 := by
  obtain ⟨cs, rest, h1, h2, h3, h4⟩ := hP
  match cs with
  | [] => rw [h2, h1]; simp
  | [c] =>
    have k1 := h3 c (by simp)
    have hl : l0.length = c.length + rest.length := by rw [h1]; simp
    have hr : rest = [] := List.eq_nil_of_length_eq_zero (by omega)
    subst hr
    rw [h2, h1, ssort_nil]; simp
  | c1 :: c2 :: cs =>
    have k1 := h3 c1 (by simp)
    have k2 := h3 c2 (by simp)
    have hl : l0.length = c1.length + (c2.length + (cs.flatten.length + rest.length)) := by rw [h1]; simp
    omega
end Go.Proofs.Ytnelgellbabkoaa.StbB

/- The walks of slices.SortStableFunc at api.Setting: the row and its elements. Printed by gen_stb.py. -/
namespace Go.Proofs.Ytnelgellbabkoaa
open Go.Shelf Go.RowKit Go.Lib Go.Sort SortM StbA StbB
namespace StbSet
variable {α : Type} {f0 : α → ByteArray} {f1 : α → ByteArray} {w0 : World} {blk off : Nat} {d0 : Array α}
def enc (f0 : α → ByteArray) (f1 : α → ByteArray) (x : α) : List Value := [.string (f0 x), .string (f1 x)]
theorem enc_len : ∀ x, (enc f0 f1 x).length = 2 := fun _ => rfl
theorem enc_one : ∀ x, ∀ v ∈ enc f0 f1 x, v.oneCell' = true := fun x v h => by
  unfold enc at h
  simp only [List.mem_cons, List.not_mem_nil, or_false] at h
  rcases h with rfl | rfl <;> rfl
variable [Inhabited α]
theorem cells {dk : Array α} {W : World} (S : SWK (enc f0 f1) 2 w0 blk off dk W) (R : RowK (enc f0 f1) 2 w0 blk off d0) (hs : dk.size = d0.size) (i : Nat) (hi : i < dk.size) :
    W.cell? ⟨blk, off + i * 2, none⟩ = some (.string (f0 dk[i]!)) ∧ W.frozen? ⟨blk, off + i * 2, none⟩ = false ∧ W.cell? ⟨blk, off + i * 2 + 1, none⟩ = some (.string (f1 dk[i]!)) ∧ W.frozen? ⟨blk, off + i * 2 + 1, none⟩ = false := by
  have h := S.holds R.hblk R.hH hs
  have h0 := HoldsK.cell h hi (show 0 < 2 by decide)
  have h1 := HoldsK.cell h hi (show 1 < 2 by decide)
  exact ⟨h0.1, h0.2, h1.1, h1.2⟩
theorem exch {dk : Array α} {W : World} (S : SWK (enc f0 f1) 2 w0 blk off dk W) (R : RowK (enc f0 f1) 2 w0 blk off d0) (i j : Nat) (hi : i < dk.size) (hj : j < dk.size) :
    SWK (enc f0 f1) 2 w0 blk off (swp dk i j) (((((W.drew).setCell ⟨blk, off + i * 2, none⟩ (.string (f0 dk[j]!))).setCell ⟨blk, off + i * 2 + 1, none⟩ (.string (f1 dk[j]!))).setCell ⟨blk, off + j * 2, none⟩ (.string (f0 dk[i]!))).setCell ⟨blk, off + j * 2 + 1, none⟩ (.string (f1 dk[i]!))) := S.swapped R i j hi hj
end StbSet
end Go.Proofs.Ytnelgellbabkoaa

/- The walks of slices.SortStableFunc at api.Setting: swapRangeCmpFunc: two runs are exchanged. Printed by gen_stb.py. -/
namespace Go.Proofs.Ytnelgellbabkoaa
open Go.Shelf Go.RowKit Go.Lib Go.Sort SortM StbA StbB
namespace StbSet
variable {α : Type} [Inhabited α] {f0 : α → ByteArray} {f1 : α → ByteArray} {w0 : World} {blk off : Nat} {d0 : Array α}
set_option maxRecDepth 10000 in
set_option maxHeartbeats 4000000 in
theorem swapRange_any {d : Array α} {w : World} (R : RowK (enc f0 f1) 2 w0 blk off d0) (hs : d.size = d0.size) (S : SWK (enc f0 f1) 2 w0 blk off d w) (a b m cap : Nat) (hab : a + m ≤ b) (hb : b + m ≤ d0.size) (hn : d0.size ≤ 1000000) (cv : Value) :
    Calls Try.prog 160 #[.slice (some ⟨blk, off, none⟩) d0.size cap, .int .i64 a, .int .i64 b, .int .i64 m, cv] w fun e w' => e = .returned (.tuple #[]) ∧ SWK (enc f0 f1) 2 w0 blk off (swr d a b m) w' := by
  have hlen := size_swr d a b
  obtain ⟨N, hN⟩ : ∃ N, N = d0.size := ⟨_, rfl⟩
  rw [← hN] at hb hn hs ⊢
  have HS := Lib.hid S; have Hlen := Lib.hid hlen; clear S hlen
  go_enter Try.func160, Try.ntmps160
  go_wp2_with fail
  go_loopw [10] (fun i wr => ∃ k : Nat, k ≤ m ∧ i = .int .i64 k ∧ SWK (enc f0 f1) 2 w0 blk off (swr d a b k) wr) (fun i _ => m - (intOf i).toNat)
  case atStart => exact ⟨0, Nat.zero_le _, rfl, HS.out⟩
  case round =>
    obtain ⟨k, hk, rfl, S⟩ := hrel
    by_cases hlt : k < m
    · have hl := Hlen.out k
      obtain ⟨dk, hdk⟩ : ∃ dk, dk = swr d a b k := ⟨_, rfl⟩
      rw [← hdk] at S hl
      have hnx : swr d a b (k + 1) = swp dk (a + k) (b + k) := by rw [swr, ← hdk]
      have hEX := exch S R (a + k) (b + k) (by omega) (by omega)
      obtain ⟨p0, pf0, p1, pf1⟩ := cells S R (by omega) (a + k) (by omega)
      obtain ⟨q0, qf0, q1, qf1⟩ := cells S R (by omega) (b + k) (by omega)
      obtain ⟨x, hx⟩ : ∃ x, x = dk[a + k]! := ⟨_, rfl⟩
      obtain ⟨y, hy⟩ : ∃ y, y = dk[b + k]! := ⟨_, rfl⟩
      rw [← hx] at p0 p1 hEX
      rw [← hy] at q0 q1 hEX
      obtain ⟨x0, hx0⟩ : ∃ v, v = f0 x := ⟨_, rfl⟩
      obtain ⟨y0, hy0⟩ : ∃ v, v = f0 y := ⟨_, rfl⟩
      rw [← hx0] at p0 hEX
      rw [← hy0] at q0 hEX
      obtain ⟨x1, hx1⟩ : ∃ v, v = f1 x := ⟨_, rfl⟩
      obtain ⟨y1, hy1⟩ : ∃ v, v = f1 y := ⟨_, rfl⟩
      rw [← hx1] at p1 hEX
      rw [← hy1] at q1 hEX
      have na00 : ¬ off + (a + k) * 2 = off + (b + k) * 2 := by omega
      have nb00 : ¬ off + (b + k) * 2 = off + (a + k) * 2 := by omega
      have na01 : ¬ off + (a + k) * 2 = off + (b + k) * 2 + 1 := by omega
      have nb01 : ¬ off + (b + k) * 2 = off + (a + k) * 2 + 1 := by omega
      have na10 : ¬ off + (a + k) * 2 + 1 = off + (b + k) * 2 := by omega
      have nb10 : ¬ off + (b + k) * 2 + 1 = off + (a + k) * 2 := by omega
      have na11 : ¬ off + (a + k) * 2 + 1 = off + (b + k) * 2 + 1 := by omega
      have nb11 : ¬ off + (b + k) * 2 + 1 = off + (a + k) * 2 + 1 := by omega
      have w1 : IntKind.i64.wrap ((a : Int) + (k : Int)) = (a : Int) + (k : Int) := IntWalk.i64_in _ (by omega)
      have w2 : IntKind.i64.wrap ((b : Int) + (k : Int)) = (b : Int) + (k : Int) := IntWalk.i64_in _ (by omega)
      have n1 : ((a : Int) + (k : Int)).toNat = a + k := by omega
      have n2 : ((b : Int) + (k : Int)).toNat = b + k := by omega
      have u1 : (0 : Int) ≤ (a : Int) + (k : Int) := by omega
      have u2 : (0 : Int) ≤ (b : Int) + (k : Int) := by omega
      have v1 : (a : Int) + (k : Int) < (N : Int) := by omega
      have v2 : (b : Int) + (k : Int) < (N : Int) := by omega
      rw [← hnx] at hEX
      clear S
      have Hdk := Lib.hid hdk; have Hnx := Lib.hid hnx; have Hl := Lib.hid hl; have Hx := Lib.hid hx; have Hy := Lib.hid hy; have Hx0 := Lib.hid hx0; have Hy0 := Lib.hid hy0; have Hx1 := Lib.hid hx1; have Hy1 := Lib.hid hy1; have HEX := Lib.hid hEX; clear hdk hnx hl hx hy hx0 hy0 hx1 hy1 hEX
      go_wp2_with fail
      go_region
      all_goals
        go_wp2_with fail
        go_roundw
        case rel => exact ⟨k + 1, by omega, by go_num, HEX.out⟩
        case measure => simp [intOf]; omega
    · obtain rfl : k = m := by omega
      have HS := Lib.hid S; clear S
      go_wp2_with fail
      go_end0
      exact ⟨rfl, HS.out⟩
end StbSet
end Go.Proofs.Ytnelgellbabkoaa

/- The walks of slices.SortStableFunc at api.Setting: rotateCmpFunc: two runs are turned about. Printed by gen_stb.py. -/
namespace Go.Proofs.Ytnelgellbabkoaa
open Go.Shelf Go.RowKit Go.Lib Go.Sort SortM StbA StbB
namespace StbSet
variable {α : Type} [Inhabited α] {f0 : α → ByteArray} {f1 : α → ByteArray} {w0 : World} {blk off : Nat} {d0 : Array α}
/-- the row has become that list -/
def Now (f : α → List Value) (k : Nat) (w0 : World) (blk off : Nat) (l : List α) (e : Ending) (w' : World) : Prop := e = .returned (.tuple #[]) ∧ ∃ d : Array α, SWK f k w0 blk off d w' ∧ d.toList = l
set_option maxRecDepth 10000 in
set_option maxHeartbeats 4000000 in
theorem rotate_any {d : Array α} {w : World} (R : RowK (enc f0 f1) 2 w0 blk off d0) (S : SWK (enc f0 f1) 2 w0 blk off d w) {p u v q : List α} (hd : d.toList = p ++ u ++ v ++ q) (hs : d.size = d0.size) {a m b : Nat} (ha : a = p.length) (hm : m = a + u.length) (hb : b = m + v.length) (hu : 0 < u.length) (hv : 0 < v.length) (cap : Nat) (hn : d0.size ≤ 1000000) (cv : Value) :
    Calls Try.prog 156 #[.slice (some ⟨blk, off, none⟩) d0.size cap, .int .i64 a, .int .i64 m, .int .i64 b, cv] w (Now (enc f0 f1) 2 w0 blk off (p ++ v ++ u ++ q)) := by
  have hst := RInv.start hd (m := m) (i := u.length) (j := v.length) rfl rfl (by omega)
  have htl : (p ++ v ++ u ++ q).length = d0.size := by rw [← hs, ← hst.size]
  have hle := hst.le
  obtain ⟨iu, hiu⟩ : ∃ n, n = u.length := ⟨_, rfl⟩
  obtain ⟨jv, hjv⟩ : ∃ n, n = v.length := ⟨_, rfl⟩
  obtain ⟨tgt, htg⟩ : ∃ l, l = p ++ v ++ u ++ q := ⟨_, rfl⟩
  rw [← htg] at hst htl ⊢
  rw [← hiu] at hst hm hu hle
  rw [← hjv] at hst hb hv hle
  have hC := fun (dk : Array α) (wr : World) (hs : dk.size = d0.size) (S : SWK (enc f0 f1) 2 w0 blk off dk wr) (a b m : Nat) (h1 : a + m ≤ b) (h2 : b + m ≤ d0.size) => swapRange_any R hs S a b m cap h1 h2 hn cv
  obtain ⟨N, hN⟩ : ∃ N, N = d0.size := ⟨_, rfl⟩
  rw [← hN] at hn htl hs hC ⊢
  have i1 : IntKind.i64.wrap ((m : Int) - (a : Int)) = (iu : Int) := by rw [IntWalk.i64_in _ (by omega)]; omega
  have i2 : IntKind.i64.wrap ((b : Int) - (m : Int)) = (jv : Int) := by rw [IntWalk.i64_in _ (by omega)]; omega
  clear hd ha hm hb hle
  have Hst := Lib.hid hst; have HS := Lib.hid S; have HC := Lib.hid hC; have Htl := Lib.hid htl; have Htg := Lib.hid htg; have Hiu := Lib.hid hiu; have Hjv := Lib.hid hjv; have HN := Lib.hid hN; clear hst S hC htl htg hiu hjv hN
  go_enter Try.func156, Try.ntmps156
  go_wp2_with fail
  go_loopw [10, 11] (fun x y wr => ∃ (i j : Nat) (dk : Array α), x = .int .i64 i ∧ y = .int .i64 j ∧ 0 < i ∧ 0 < j ∧ RInv tgt m i j dk ∧ SWK (enc f0 f1) 2 w0 blk off dk wr) (fun x y _ => (intOf x).toNat + (intOf y).toNat)
  case atStart => exact ⟨iu, jv, d, rfl, rfl, hu, hv, Hst.out, HS.out⟩
  case round =>
    clear i1 i2
    obtain ⟨i, j, dk, rfl, rfl, hi, hj, hI, S⟩ := hrel
    have hsz := hI.size
    rw [Htl.out] at hsz
    have hl := hI.le
    rw [hsz] at hl
    have w1 : IntKind.i64.wrap ((m : Int) - (i : Int)) = ((m - i : Nat) : Int) := by rw [IntWalk.i64_in _ (by omega)]; omega
    rcases Nat.lt_trichotomy i j with hij | hij | hij
    · have hne : ((i : Int) == (j : Int)) = false := by rw [beq_eq_false_iff_ne]; omega
      have hgt : decide ((j : Int) < (i : Int)) = false := decide_eq_false (by omega)
      have w2 : IntKind.i64.wrap ((m : Int) + (j : Int)) = (m : Int) + (j : Int) := IntWalk.i64_in _ (by omega)
      have w3 : IntKind.i64.wrap ((m : Int) + (j : Int) - (i : Int)) = ((m + j - i : Nat) : Int) := by rw [IntWalk.i64_in _ (by omega)]; omega
      have w4 : IntKind.i64.wrap ((j : Int) - (i : Int)) = ((j - i : Nat) : Int) := by rw [IntWalk.i64_in _ (by omega)]; omega
      have hc := HC.out dk wr hsz S (m - i) (m + j - i) i (by omega) (by omega)
      have hnI := hI.lt hij
      clear S hI
      have Hc := Lib.hid hc; have HnI := Lib.hid hnI; have Hsz := Lib.hid hsz; clear hc hnI hsz
      go_wp2_with fail
      refine Hc.out.mono ?_
      rintro e w2 ⟨rfl, S⟩
      have HS := Lib.hid S; clear S
      go_wp2_with fail
      go_roundw
      case rel => exact ⟨i, j - i, _, rfl, rfl, hi, by omega, HnI.out, HS.out⟩
      case measure => simp [intOf]; omega
    · subst hij
      have hne : ((i : Int) == (i : Int)) = true := by simp
      have hc := HC.out dk wr hsz S (m - i) m i (by omega) (by omega)
      have hnI := hI.eq
      clear S hI
      have Hc := Lib.hid hc; have HnI := Lib.hid hnI; have Hsz := Lib.hid hsz; clear hc hnI hsz
      go_wp2_with fail
      refine Hc.out.mono ?_
      rintro e w2 ⟨rfl, S⟩
      have HS := Lib.hid S; clear S
      go_wp2_with fail
      go_end0
      exact ⟨rfl, _, HS.out, HnI.out⟩
    · have hne : ((i : Int) == (j : Int)) = false := by rw [beq_eq_false_iff_ne]; omega
      have hgt : decide ((j : Int) < (i : Int)) = true := decide_eq_true (by omega)
      have w4 : IntKind.i64.wrap ((i : Int) - (j : Int)) = ((i - j : Nat) : Int) := by rw [IntWalk.i64_in _ (by omega)]; omega
      have hc := HC.out dk wr hsz S (m - i) m j (by omega) (by omega)
      have hnI := hI.gt hij
      clear S hI
      have Hc := Lib.hid hc; have HnI := Lib.hid hnI; have Hsz := Lib.hid hsz; clear hc hnI hsz
      go_wp2_with fail
      refine Hc.out.mono ?_
      rintro e w2 ⟨rfl, S⟩
      have HS := Lib.hid S; clear S
      go_wp2_with fail
      go_roundw
      case rel => exact ⟨i - j, j, _, rfl, rfl, by omega, hj, HnI.out, HS.out⟩
      case measure => simp [intOf]; omega
end StbSet
end Go.Proofs.Ytnelgellbabkoaa

/- The walks of slices.SortStableFunc at api.Setting: symMergeCmpFunc where the first run has one element. Printed by gen_stb.py. -/
namespace Go.Proofs.Ytnelgellbabkoaa
open Go.Shelf Go.RowKit Go.Lib Go.Sort SortM StbA StbB
namespace StbSet
variable {α : Type} [Inhabited α] {f0 : α → ByteArray} {f1 : α → ByteArray} {w0 : World} {blk off : Nat} {d0 : Array α}
variable {cf : α → α → Int} {g : Nat} {cb : Array Value}
set_option maxRecDepth 10000 in
set_option maxHeartbeats 4000000 in
theorem merge_left {dk : Array α} {w : World} (R : RowK (enc f0 f1) 2 w0 blk off d0) (S : SWK (enc f0 f1) 2 w0 blk off dk w) (C : CmpLays Try.prog g cb (enc f0 f1) 2 cf blk off d0.size w0) (eg : ∀ args w, (callFunc g args).run Try.prog w = .ok (.enter g args) w) (hO : Swo (ltOf cf))
    {p v q : List α} {x : α} (hd : dk.toList = p ++ x :: (v ++ q)) (hs : dk.size = d0.size) (hv : Sorted (ltOf cf) v) {a m b : Nat} (ha : a = p.length) (hm : m = a + 1) (hb : b = m + v.length) (cap : Nat) (hn : d0.size ≤ 1000000) :
    Calls Try.prog 145 #[.slice (some ⟨blk, off, none⟩) d0.size cap, .int .i64 a, .int .i64 m, .int .i64 b, .func (.func g) #[] cb] w (Now (enc f0 f1) 2 w0 blk off (p ++ ssort (ltOf cf) (x :: v) ++ q)) := by
  have hbn : b ≤ d0.size := by rw [← hs, ← Array.length_toList, hd]; simp; omega
  have hix : SortedIx (ltOf cf) m b dk := sortedIx_of hO (p := p ++ [x]) (u := v) (q := q) (by rw [hd]; simp) hv (by simp; omega) (by simp; omega)
  have hM := mono_left hO (a := a) hix
  have hend := fun i (hB : BS (fun c => ltOf cf dk[c]! dk[a]!) m b i i) => one_left hO hd hv ha hm hb hB
  have hmb : m ≤ b := by omega
  have hB0 := BS.start (fun c => ltOf cf dk[c]! dk[a]!) hmb
  have hk1 : IntKind.i64.wrap ((m : Int) - (a : Int)) = 1 := by rw [IntWalk.i64_in _ (by omega)]; omega
  have hk2 : ((1 : Int) == 1) = true := by simp
  obtain ⟨tgt, htg⟩ : ∃ l, l = p ++ ssort (ltOf cf) (x :: v) ++ q := ⟨_, rfl⟩
  rw [← htg] at hend ⊢
  obtain ⟨N, hN⟩ : ∃ N, N = d0.size := ⟨_, rfl⟩
  rw [← hN] at hn hs hbn ⊢
  have ham : a < m := by omega
  clear hix hd hv ha hm hb
  have HS := Lib.hid S; have HM := Lib.hid hM; have HB0 := Lib.hid hB0; have Hend := Lib.hid hend; have Htg := Lib.hid htg; have Hs := Lib.hid hs; have HN := Lib.hid hN; have Hmb := Lib.hid hmb; have HC := Lib.hid C; have HR := Lib.hid R; have HO := Lib.hid hO; clear S hM hB0 hend htg hs hN hmb C R hO
  go_enter Try.func145, Try.ntmps145
  go_wp2_with fail
  clear hk1
  go_loopw [10, 11] (fun x y wr => ∃ (i j : Nat), x = .int .i64 i ∧ y = .int .i64 j ∧ BS (fun c => ltOf cf dk[c]! dk[a]!) m b i j ∧ SWK (enc f0 f1) 2 w0 blk off dk wr) (fun x y _ => (intOf y).toNat - (intOf x).toNat)
  case atStart => exact ⟨m, b, rfl, rfl, HB0.out, HS.out⟩
  case round =>
    obtain ⟨i, j, rfl, rfl, hB, S⟩ := hrel
    have l1 := hB.l1
    have l2 := hB.l2
    have l3 := hB.l3
    by_cases hlt : i < j
    · have R := HR.out
      have C := HC.out
      have hs := Hs.out
      rw [HN.out] at hs
      have hN' := HN.out
      obtain ⟨h, hh⟩ : ∃ h, h = (i + j) / 2 := ⟨_, rfl⟩
      have w1 : IntKind.i64.wrap ((i : Int) + (j : Int)) = (i : Int) + (j : Int) := IntWalk.i64_in _ (by omega)
      have w2 : ((i : Int) + (j : Int)) / 2 = (h : Int) := by omega
      have hGR := fun n os => SWK.grown S n os
      have hp := fun n os => cells (SWK.grown S n os) R hs (h) (by omega)
      obtain ⟨x, hx⟩ : ∃ v, v = dk[h]! := ⟨_, rfl⟩
      have hq := fun n os => cells (SWK.grown S n os) R hs (a) (by omega)
      obtain ⟨y, hy⟩ : ∃ v, v = dk[a]! := ⟨_, rfl⟩
      have hc := fun n os => SWK.cmp S C hs x y n os
      rw [← hx] at hp
      rw [← hy] at hq
      obtain ⟨x0, hx0⟩ : ∃ v, v = f0 x := ⟨_, rfl⟩
      obtain ⟨x1, hx1⟩ : ∃ v, v = f1 x := ⟨_, rfl⟩
      obtain ⟨y0, hy0⟩ : ∃ v, v = f0 y := ⟨_, rfl⟩
      obtain ⟨y1, hy1⟩ : ∃ v, v = f1 y := ⟨_, rfl⟩
      rw [← hx0, ← hx1] at hp
      rw [← hy0, ← hy1] at hq
      have p0 := fun n os => (hp n os).1
      have p1 := fun n os => (hp n os).2.2.1
      have q0 := fun n os => (hq n os).1
      have q1 := fun n os => (hq n os).2.2.1
      clear hp hq
      have hcg : ∀ n os, Calls Try.prog g (#[.agg #[.string (x0), .string (x1)], .agg #[.string (y0), .string (y1)]] ++ cb) (grow (wr.drewN n) os) fun e w' => e = .returned (.int .i64 (cf x y)) ∧ ∃ q os', w' = grow ((grow (wr.drewN n) os).drewN q) os' := by rw [hx0, hy0, hx1, hy1]; exact hc
      clear hc
      obtain ⟨cv, hcv⟩ : ∃ v, v = cf x y := ⟨_, rfl⟩
      rw [← hcv] at hcg
      have hl : (h : Int) < (N : Int) := by omega
      have al : (a : Int) < (N : Int) := by omega
      have hij1 : i ≤ h := by omega
      have hij2 : h < j := by omega
      clear S hs R C hN'
      cases hdec : decide (cv < 0) with
      | true =>
        have hB2 := hB.left HM.out hij1 hij2 (by rw [← hx, ← hy]; unfold ltOf; rw [← hcv]; exact hdec)
        have hlv : cv < 0 := of_decide_eq_true hdec
        have HB := Lib.hid hB; have HB2 := Lib.hid hB2; have Hx := Lib.hid hx; have Hy := Lib.hid hy; have Hx0 := Lib.hid hx0; have Hy0 := Lib.hid hy0; have Hx1 := Lib.hid hx1; have Hy1 := Lib.hid hy1; have HGR := Lib.hid hGR; have Hcv := Lib.hid hcv; have Hh := Lib.hid hh; have Hdec := Lib.hid hdec; clear hB hB2 hx hy hx0 hy0 hx1 hy1 hGR hcv hh hdec
        go_wp2_with fail
        go_quiet_grown (first | (go_at_fn g; refine Calls.grown_of (hcg _ _)))
        go_wp2_with fail
        go_roundw
        case rel => exact ⟨h + 1, j, by go_num, rfl, HB2.out, HGR.out _ _⟩
        case measure => simp [intOf]; omega
      | false =>
        have hB2 := hB.right HM.out hij1 hij2 (by rw [← hx, ← hy]; unfold ltOf; rw [← hcv]; exact hdec)
        have hlv : ¬ cv < 0 := of_decide_eq_false hdec
        have HB := Lib.hid hB; have HB2 := Lib.hid hB2; have Hx := Lib.hid hx; have Hy := Lib.hid hy; have Hx0 := Lib.hid hx0; have Hy0 := Lib.hid hy0; have Hx1 := Lib.hid hx1; have Hy1 := Lib.hid hy1; have HGR := Lib.hid hGR; have Hcv := Lib.hid hcv; have Hh := Lib.hid hh; have Hdec := Lib.hid hdec; clear hB hB2 hx hy hx0 hy0 hx1 hy1 hGR hcv hh hdec
        go_wp2_with fail
        go_quiet_grown (first | (go_at_fn g; refine Calls.grown_of (hcg _ _)))
        go_wp2_with fail
        go_roundw
        case rel => exact ⟨i, h, rfl, rfl, HB2.out, HGR.out _ _⟩
        case measure => simp [intOf]; omega
    · obtain rfl : i = j := by omega
      have hE := Hend.out i hB
      have him : m ≤ i := l1
      have hib : i ≤ b := l3
      clear l1 l2 l3
      have HB := Lib.hid hB; have HS := Lib.hid S; have HE := Lib.hid hE; clear hB S hE
      have w1 : IntKind.i64.wrap ((i : Int) - 1) = (i : Int) - 1 := IntWalk.i64_in _ (by omega)
      go_wp2_with fail
      clear w1
      go_loopw [13] (fun x wr => ∃ kk : Nat, x = .int .i64 kk ∧ a ≤ kk ∧ kk ≤ i - 1 ∧ SWK (enc f0 f1) 2 w0 blk off (upN dk a (kk - a)) wr) (fun x _ => i - (intOf x).toNat)
      case atStart => exact ⟨a, rfl, Nat.le_refl _, by omega, by rw [Nat.sub_self]; exact HS.out⟩
      case round =>
        obtain ⟨kk, rfl, k1, k2, S⟩ := hrel
        by_cases hlt : kk < i - 1
        · obtain ⟨ek, hek⟩ : ∃ e, e = upN dk a (kk - a) := ⟨_, rfl⟩
          rw [← hek] at S
          have hnx : upN dk a (kk + 1 - a) = swp ek kk (kk + 1) := by
            rw [show kk + 1 - a = (kk - a) + 1 by omega, upN, ← hek, show a + (kk - a) = kk by omega]
          have R := HR.out
          have hl : ek.size = d0.size := by rw [hek, size_upN, Hs.out, HN.out]
          have hN' := HN.out
          have hEX := exch S R (kk) (kk + 1) (by omega) (by omega)
          obtain ⟨p0, pf0, p1, pf1⟩ := cells S R hl (kk) (by omega)
          obtain ⟨q0, qf0, q1, qf1⟩ := cells S R hl (kk + 1) (by omega)
          obtain ⟨x, hx⟩ : ∃ x, x = ek[kk]! := ⟨_, rfl⟩
          obtain ⟨y, hy⟩ : ∃ y, y = ek[kk + 1]! := ⟨_, rfl⟩
          rw [← hx] at p0 p1 hEX
          rw [← hy] at q0 q1 hEX
          obtain ⟨x0, hx0⟩ : ∃ v, v = f0 x := ⟨_, rfl⟩
          obtain ⟨y0, hy0⟩ : ∃ v, v = f0 y := ⟨_, rfl⟩
          rw [← hx0] at p0 hEX
          rw [← hy0] at q0 hEX
          obtain ⟨x1, hx1⟩ : ∃ v, v = f1 x := ⟨_, rfl⟩
          obtain ⟨y1, hy1⟩ : ∃ v, v = f1 y := ⟨_, rfl⟩
          rw [← hx1] at p1 hEX
          rw [← hy1] at q1 hEX
          have na00 : ¬ off + (kk) * 2 = off + (kk + 1) * 2 := by omega
          have nb00 : ¬ off + (kk + 1) * 2 = off + (kk) * 2 := by omega
          have na01 : ¬ off + (kk) * 2 = off + (kk + 1) * 2 + 1 := by omega
          have nb01 : ¬ off + (kk + 1) * 2 = off + (kk) * 2 + 1 := by omega
          have na10 : ¬ off + (kk) * 2 + 1 = off + (kk + 1) * 2 := by omega
          have nb10 : ¬ off + (kk + 1) * 2 + 1 = off + (kk) * 2 := by omega
          have na11 : ¬ off + (kk) * 2 + 1 = off + (kk + 1) * 2 + 1 := by omega
          have nb11 : ¬ off + (kk + 1) * 2 + 1 = off + (kk) * 2 + 1 := by omega
          have w1 : IntKind.i64.wrap ((kk : Int) + 1) = (kk : Int) + 1 := IntWalk.i64_in _ (by omega)
          have w2 : IntKind.i64.wrap ((i : Int) - 1) = (i : Int) - 1 := IntWalk.i64_in _ (by omega)
          have n2 : ((kk : Int) + 1).toNat = kk + 1 := by omega
          have u2 : (0 : Int) ≤ (kk : Int) + 1 := by omega
          have v1 : (kk : Int) < (N : Int) := by omega
          have v2 : (kk : Int) + 1 < (N : Int) := by omega
          have v3 : (kk : Int) < (i : Int) - 1 := by omega
          rw [← hnx] at hEX
          clear S R hN'
          have Hek := Lib.hid hek; have Hnx := Lib.hid hnx; have Hl := Lib.hid hl; have Hx := Lib.hid hx; have Hy := Lib.hid hy; have Hx0 := Lib.hid hx0; have Hy0 := Lib.hid hy0; have Hx1 := Lib.hid hx1; have Hy1 := Lib.hid hy1; have HEX := Lib.hid hEX; clear hek hnx hl hx hy hx0 hy0 hx1 hy1 hEX
          go_wp2_with fail
          go_region
          all_goals
            go_wp2_with fail
            go_roundw
            case rel => exact ⟨kk + 1, by go_num, by omega, by omega, HEX.out⟩
            case measure => simp [intOf]; omega
        · obtain rfl : kk = i - 1 := by omega
          have v3 : ¬ ((i - 1 : Nat) : Int) < (i : Int) - 1 := by omega
          have w2 : IntKind.i64.wrap ((i : Int) - 1) = (i : Int) - 1 := IntWalk.i64_in _ (by omega)
          have HS := Lib.hid S; clear S
          go_wp2_with fail
          go_end0
          exact ⟨rfl, _, HS.out, HE.out⟩
end StbSet
end Go.Proofs.Ytnelgellbabkoaa

/- The walks of slices.SortStableFunc at api.Setting: symMergeCmpFunc where the second run has one element. Printed by gen_stb.py. -/
namespace Go.Proofs.Ytnelgellbabkoaa
open Go.Shelf Go.RowKit Go.Lib Go.Sort SortM StbA StbB
namespace StbSet
variable {α : Type} [Inhabited α] {f0 : α → ByteArray} {f1 : α → ByteArray} {w0 : World} {blk off : Nat} {d0 : Array α}
variable {cf : α → α → Int} {g : Nat} {cb : Array Value}
set_option maxRecDepth 10000 in
set_option maxHeartbeats 4000000 in
theorem merge_right {dk : Array α} {w : World} (R : RowK (enc f0 f1) 2 w0 blk off d0) (S : SWK (enc f0 f1) 2 w0 blk off dk w) (C : CmpLays Try.prog g cb (enc f0 f1) 2 cf blk off d0.size w0) (eg : ∀ args w, (callFunc g args).run Try.prog w = .ok (.enter g args) w) (hO : Swo (ltOf cf))
    {p u q : List α} {x : α} (hd : dk.toList = p ++ u ++ x :: q) (hs : dk.size = d0.size) (hu : Sorted (ltOf cf) u) {a m b : Nat} (ha : a = p.length) (hm : m = a + u.length) (hb : b = m + 1) (h2 : 2 ≤ u.length) (cap : Nat) (hn : d0.size ≤ 1000000) :
    Calls Try.prog 145 #[.slice (some ⟨blk, off, none⟩) d0.size cap, .int .i64 a, .int .i64 m, .int .i64 b, .func (.func g) #[] cb] w (Now (enc f0 f1) 2 w0 blk off (p ++ ssort (ltOf cf) (u ++ [x]) ++ q)) := by
  have hbn : b ≤ d0.size := by rw [← hs, ← Array.length_toList, hd]; simp; omega
  have hix : SortedIx (ltOf cf) a m dk := sortedIx_of hO (p := p) (u := u) (q := x :: q) hd hu ha (by omega)
  have hM := mono_right hO hix
  have hend := fun i (hB : BS (fun c => !ltOf cf dk[m]! dk[c]!) a m i i) => one_right hO hd hu ha hm hB
  have hmb : a ≤ m := by omega
  have hB0 := BS.start (fun c => !ltOf cf dk[m]! dk[c]!) hmb
  have hk1 : IntKind.i64.wrap ((m : Int) - (a : Int)) = (m : Int) - (a : Int) := IntWalk.i64_in _ (by omega)
  have hk2 : ((m : Int) - (a : Int) == 1) = false := by rw [beq_eq_false_iff_ne]; omega
  have hk3 : IntKind.i64.wrap ((b : Int) - (m : Int)) = 1 := by rw [IntWalk.i64_in _ (by omega)]; omega
  have hk4 : ((1 : Int) == 1) = true := by simp
  obtain ⟨tgt, htg⟩ : ∃ l, l = p ++ ssort (ltOf cf) (u ++ [x]) ++ q := ⟨_, rfl⟩
  rw [← htg] at hend ⊢
  obtain ⟨N, hN⟩ : ∃ N, N = d0.size := ⟨_, rfl⟩
  rw [← hN] at hn hs hbn ⊢
  have hmn : m < N := by omega
  clear hix hd hu ha hm hb h2
  have HS := Lib.hid S; have HM := Lib.hid hM; have HB0 := Lib.hid hB0; have Hend := Lib.hid hend; have Htg := Lib.hid htg; have Hs := Lib.hid hs; have HN := Lib.hid hN; have Hmb := Lib.hid hmb; have HC := Lib.hid C; have HR := Lib.hid R; have HO := Lib.hid hO; clear S hM hB0 hend htg hs hN hmb C R hO
  go_enter Try.func145, Try.ntmps145
  go_wp2_with fail
  clear hk1 hk2 hk3
  go_loopw [14, 15] (fun x y wr => ∃ (i j : Nat), x = .int .i64 i ∧ y = .int .i64 j ∧ BS (fun c => !ltOf cf dk[m]! dk[c]!) a m i j ∧ SWK (enc f0 f1) 2 w0 blk off dk wr) (fun x y _ => (intOf y).toNat - (intOf x).toNat)
  case atStart => exact ⟨a, m, rfl, rfl, HB0.out, HS.out⟩
  case round =>
    obtain ⟨i, j, rfl, rfl, hB, S⟩ := hrel
    have l1 := hB.l1
    have l2 := hB.l2
    have l3 := hB.l3
    by_cases hlt : i < j
    · have R := HR.out
      have C := HC.out
      have hs := Hs.out
      rw [HN.out] at hs
      have hN' := HN.out
      obtain ⟨h, hh⟩ : ∃ h, h = (i + j) / 2 := ⟨_, rfl⟩
      have w1 : IntKind.i64.wrap ((i : Int) + (j : Int)) = (i : Int) + (j : Int) := IntWalk.i64_in _ (by omega)
      have w2 : ((i : Int) + (j : Int)) / 2 = (h : Int) := by omega
      have hGR := fun n os => SWK.grown S n os
      have hp := fun n os => cells (SWK.grown S n os) R hs (m) (by omega)
      obtain ⟨x, hx⟩ : ∃ v, v = dk[m]! := ⟨_, rfl⟩
      have hq := fun n os => cells (SWK.grown S n os) R hs (h) (by omega)
      obtain ⟨y, hy⟩ : ∃ v, v = dk[h]! := ⟨_, rfl⟩
      have hc := fun n os => SWK.cmp S C hs x y n os
      rw [← hx] at hp
      rw [← hy] at hq
      obtain ⟨x0, hx0⟩ : ∃ v, v = f0 x := ⟨_, rfl⟩
      obtain ⟨x1, hx1⟩ : ∃ v, v = f1 x := ⟨_, rfl⟩
      obtain ⟨y0, hy0⟩ : ∃ v, v = f0 y := ⟨_, rfl⟩
      obtain ⟨y1, hy1⟩ : ∃ v, v = f1 y := ⟨_, rfl⟩
      rw [← hx0, ← hx1] at hp
      rw [← hy0, ← hy1] at hq
      have p0 := fun n os => (hp n os).1
      have p1 := fun n os => (hp n os).2.2.1
      have q0 := fun n os => (hq n os).1
      have q1 := fun n os => (hq n os).2.2.1
      clear hp hq
      have hcg : ∀ n os, Calls Try.prog g (#[.agg #[.string (x0), .string (x1)], .agg #[.string (y0), .string (y1)]] ++ cb) (grow (wr.drewN n) os) fun e w' => e = .returned (.int .i64 (cf x y)) ∧ ∃ q os', w' = grow ((grow (wr.drewN n) os).drewN q) os' := by rw [hx0, hy0, hx1, hy1]; exact hc
      clear hc
      obtain ⟨cv, hcv⟩ : ∃ v, v = cf x y := ⟨_, rfl⟩
      rw [← hcv] at hcg
      have hl : (h : Int) < (N : Int) := by omega
      have al : (m : Int) < (N : Int) := by omega
      have hij1 : i ≤ h := by omega
      have hij2 : h < j := by omega
      clear S hs R C hN'
      cases hdec : decide (cv < 0) with
      | true =>
        have hB2 := hB.right HM.out hij1 hij2 (by show (!ltOf cf dk[m]! dk[h]!) = false; rw [← hx, ← hy]; unfold ltOf; rw [← hcv, hdec]; rfl)
        have hlv : cv < 0 := of_decide_eq_true hdec
        have hlv2 : ¬ 0 ≤ cv := by omega
        have HB := Lib.hid hB; have HB2 := Lib.hid hB2; have Hx := Lib.hid hx; have Hy := Lib.hid hy; have Hx0 := Lib.hid hx0; have Hy0 := Lib.hid hy0; have Hx1 := Lib.hid hx1; have Hy1 := Lib.hid hy1; have HGR := Lib.hid hGR; have Hcv := Lib.hid hcv; have Hh := Lib.hid hh; have Hdec := Lib.hid hdec; clear hB hB2 hx hy hx0 hy0 hx1 hy1 hGR hcv hh hdec
        go_wp2_with fail
        go_quiet_grown (first | (go_at_fn g; refine Calls.grown_of (hcg _ _)))
        go_wp2_with fail
        go_roundw
        case rel => exact ⟨i, h, rfl, rfl, HB2.out, HGR.out _ _⟩
        case measure => simp [intOf]; omega
      | false =>
        have hB2 := hB.left HM.out hij1 hij2 (by show (!ltOf cf dk[m]! dk[h]!) = true; rw [← hx, ← hy]; unfold ltOf; rw [← hcv, hdec]; rfl)
        have hlv : ¬ cv < 0 := of_decide_eq_false hdec
        have hlv2 : 0 ≤ cv := by omega
        have hdn : (!decide (cv < 0)) = true := by rw [hdec]; rfl
        have HB := Lib.hid hB; have HB2 := Lib.hid hB2; have Hx := Lib.hid hx; have Hy := Lib.hid hy; have Hx0 := Lib.hid hx0; have Hy0 := Lib.hid hy0; have Hx1 := Lib.hid hx1; have Hy1 := Lib.hid hy1; have HGR := Lib.hid hGR; have Hcv := Lib.hid hcv; have Hh := Lib.hid hh; have Hdec := Lib.hid hdec; clear hB hB2 hx hy hx0 hy0 hx1 hy1 hGR hcv hh hdec
        go_wp2_with fail
        go_quiet_grown (first | (go_at_fn g; refine Calls.grown_of (hcg _ _)))
        go_wp2_with fail
        go_roundw
        case rel => exact ⟨h + 1, j, by go_num, rfl, HB2.out, HGR.out _ _⟩
        case measure => simp [intOf]; omega
    · obtain rfl : i = j := by omega
      have hE := Hend.out i hB
      have him : a ≤ i := l1
      have hib : i ≤ m := l3
      clear l1 l2 l3
      have HB := Lib.hid hB; have HS := Lib.hid S; have HE := Lib.hid hE; clear hB S hE
      go_wp2_with fail
      go_loopw [17] (fun x wr => ∃ kk : Nat, x = .int .i64 kk ∧ i ≤ kk ∧ kk ≤ m ∧ SWK (enc f0 f1) 2 w0 blk off (dnN dk m (m - kk)) wr) (fun x _ => (intOf x).toNat)
      case atStart => exact ⟨m, rfl, hib, Nat.le_refl _, by rw [Nat.sub_self]; exact HS.out⟩
      case round =>
        obtain ⟨kk, rfl, k1, k2, S⟩ := hrel
        by_cases hlt : i < kk
        · obtain ⟨jp, rfl⟩ : ∃ jp, kk = jp + 1 := ⟨kk - 1, by omega⟩
          obtain ⟨ek, hek⟩ : ∃ e, e = dnN dk m (m - (jp + 1)) := ⟨_, rfl⟩
          rw [← hek] at S
          have hnx : dnN dk m (m - jp) = swp ek (jp + 1) jp := by
            rw [show m - jp = (m - (jp + 1)) + 1 by omega, dnN, ← hek, show m - (m - (jp + 1)) = jp + 1 by omega, Nat.add_sub_cancel]
          have R := HR.out
          have hl : ek.size = d0.size := by rw [hek, size_dnN, Hs.out, HN.out]
          have hN' := HN.out
          have hEX := exch S R (jp + 1) (jp) (by omega) (by omega)
          obtain ⟨p0, pf0, p1, pf1⟩ := cells S R hl (jp + 1) (by omega)
          obtain ⟨q0, qf0, q1, qf1⟩ := cells S R hl (jp) (by omega)
          obtain ⟨x, hx⟩ : ∃ x, x = ek[jp + 1]! := ⟨_, rfl⟩
          obtain ⟨y, hy⟩ : ∃ y, y = ek[jp]! := ⟨_, rfl⟩
          rw [← hx] at p0 p1 hEX
          rw [← hy] at q0 q1 hEX
          obtain ⟨x0, hx0⟩ : ∃ v, v = f0 x := ⟨_, rfl⟩
          obtain ⟨y0, hy0⟩ : ∃ v, v = f0 y := ⟨_, rfl⟩
          rw [← hx0] at p0 hEX
          rw [← hy0] at q0 hEX
          obtain ⟨x1, hx1⟩ : ∃ v, v = f1 x := ⟨_, rfl⟩
          obtain ⟨y1, hy1⟩ : ∃ v, v = f1 y := ⟨_, rfl⟩
          rw [← hx1] at p1 hEX
          rw [← hy1] at q1 hEX
          have na00 : ¬ off + (jp + 1) * 2 = off + (jp) * 2 := by omega
          have nb00 : ¬ off + (jp) * 2 = off + (jp + 1) * 2 := by omega
          have na01 : ¬ off + (jp + 1) * 2 = off + (jp) * 2 + 1 := by omega
          have nb01 : ¬ off + (jp) * 2 = off + (jp + 1) * 2 + 1 := by omega
          have na10 : ¬ off + (jp + 1) * 2 + 1 = off + (jp) * 2 := by omega
          have nb10 : ¬ off + (jp) * 2 + 1 = off + (jp + 1) * 2 := by omega
          have na11 : ¬ off + (jp + 1) * 2 + 1 = off + (jp) * 2 + 1 := by omega
          have nb11 : ¬ off + (jp) * 2 + 1 = off + (jp + 1) * 2 + 1 := by omega
          have w1 : IntKind.i64.wrap (jp : Int) = (jp : Int) := IntWalk.i64_in _ (by omega)
          have n2 : ((jp : Int) + 1).toNat = jp + 1 := by omega
          have u2 : (0 : Int) ≤ (jp : Int) + 1 := by omega
          have v1 : (jp : Int) < (N : Int) := by omega
          have v2 : (jp : Int) + 1 < (N : Int) := by omega
          have v3 : (i : Int) < (jp : Int) + 1 := by omega
          rw [← hnx] at hEX
          clear S R hN'
          have Hek := Lib.hid hek; have Hnx := Lib.hid hnx; have Hl := Lib.hid hl; have Hx := Lib.hid hx; have Hy := Lib.hid hy; have Hx0 := Lib.hid hx0; have Hy0 := Lib.hid hy0; have Hx1 := Lib.hid hx1; have Hy1 := Lib.hid hy1; have HEX := Lib.hid hEX; clear hek hnx hl hx hy hx0 hy0 hx1 hy1 hEX
          go_wp2_with fail
          go_region
          all_goals
            go_wp2_with fail
            go_roundw
            case rel => exact ⟨jp, rfl, by omega, by omega, HEX.out⟩
            case measure => simp [intOf] <;> omega
        · obtain rfl : i = kk := by omega
          have v3 : ¬ (i : Int) < (i : Int) := by omega
          have HS := Lib.hid S; clear S
          go_wp2_with fail
          go_end0
          exact ⟨rfl, _, HS.out, HE.out⟩
end StbSet
end Go.Proofs.Ytnelgellbabkoaa

/- The walks of slices.SortStableFunc at api.Setting: symMergeCmpFunc in general. Printed by gen_stb.py. -/
namespace Go.Proofs.Ytnelgellbabkoaa
open Go.Shelf Go.RowKit Go.Lib Go.Sort SortM StbA StbB
namespace StbSet
variable {α : Type} [Inhabited α] {f0 : α → ByteArray} {f1 : α → ByteArray} {w0 : World} {blk off : Nat} {d0 : Array α}
variable {cf : α → α → Int} {g : Nat} {cb : Array Value}
theorem and_no {P Q : Prop} [Decidable P] [Decidable Q] {x y : Bool} (hx : x = decide P) (hy : y = decide Q) (h : (x && y) = false) : ¬ P ∨ ¬ Q := by
  subst hx hy
  by_cases hP : P
  · by_cases hQ : Q
    · simp [hP, hQ] at h
    · exact .inr hQ
  · exact .inl hP
theorem and_yes {P Q : Prop} [Decidable P] [Decidable Q] {x y : Bool} (hx : x = decide P) (hy : y = decide Q) (h : (x && y) = true) : P ∧ Q := by
  subst hx hy
  simp only [Bool.and_eq_true, decide_eq_true_eq] at h
  exact h
/-- what a merge does -/
def MergeOf (cf : α → α → Int) (f : α → List Value) (g : Nat) (cb : Array Value) (w0 : World) (blk off cap : Nat) (d0 : Array α) (n : Nat) : Prop :=
  ∀ (dk : Array α) (w : World) (p u v q : List α) (a m b : Nat), SWK f 2 w0 blk off dk w → dk.toList = p ++ u ++ v ++ q → dk.size = d0.size → Sorted (ltOf cf) u → Sorted (ltOf cf) v → a = p.length → m = a + u.length → b = m + v.length → 0 < u.length → 0 < v.length → b - a ≤ n →
    Calls Try.prog 145 #[.slice (some ⟨blk, off, none⟩) d0.size cap, .int .i64 a, .int .i64 m, .int .i64 b, .func (.func g) #[] cb] w (Now f 2 w0 blk off (p ++ ssort (ltOf cf) (u ++ v) ++ q))
/-- the row is that list -/
def At (f : α → List Value) (w0 : World) (blk off : Nat) (l : List α) (w : World) : Prop := ∃ d : Array α, SWK f 2 w0 blk off d w ∧ d.toList = l
set_option maxRecDepth 10000 in
set_option maxHeartbeats 8000000 in
theorem merge_gen {nn : Nat} {dk : Array α} {w : World} (R : RowK (enc f0 f1) 2 w0 blk off d0) (S : SWK (enc f0 f1) 2 w0 blk off dk w) (C : CmpLays Try.prog g cb (enc f0 f1) 2 cf blk off d0.size w0) (eg : ∀ args w, (callFunc g args).run Try.prog w = .ok (.enter g args) w) (hO : Swo (ltOf cf))
    {p u v q : List α} (hd : dk.toList = p ++ u ++ v ++ q) (hs : dk.size = d0.size) (hu : Sorted (ltOf cf) u) (hv : Sorted (ltOf cf) v) {a m b : Nat} (ha : a = p.length) (hm : m = a + u.length) (hb : b = m + v.length) (h2 : 2 ≤ u.length) (h3 : 2 ≤ v.length) (hn1 : b - a ≤ nn + 1) (cap : Nat) (hn : d0.size ≤ 1000000)
    (IH : MergeOf cf (enc f0 f1) g cb w0 blk off cap d0 nn) :
    Calls Try.prog 145 #[.slice (some ⟨blk, off, none⟩) d0.size cap, .int .i64 a, .int .i64 m, .int .i64 b, .func (.func g) #[] cb] w (Now (enc f0 f1) 2 w0 blk off (p ++ ssort (ltOf cf) (u ++ v) ++ q)) := by
  have hbn : b ≤ d0.size := by rw [← hs, ← Array.length_toList, hd]; simp; omega
  obtain ⟨mid, hmid⟩ : ∃ x, x = (a + b) / 2 := ⟨_, rfl⟩
  obtain ⟨n, hnn⟩ : ∃ x, x = mid + m := ⟨_, rfl⟩
  obtain ⟨pn, hpn⟩ : ∃ x, x = n - 1 := ⟨_, rfl⟩
  obtain ⟨lo, hi, hlo⟩ : ∃ lo hi, (mid < m → lo = n - b ∧ hi = mid) ∧ (¬ mid < m → lo = a ∧ hi = m) := by
    by_cases h : mid < m
    · exact ⟨n - b, mid, fun _ => ⟨rfl, rfl⟩, fun h' => absurd h h'⟩
    · exact ⟨a, m, fun h' => absurd h' h, fun _ => ⟨rfl, rfl⟩⟩
  have hb1 : a ≤ lo ∧ lo ≤ hi ∧ hi ≤ m ∧ hi ≤ n ∧ m ≤ n - hi ∧ n - 1 - lo < b ∧ 0 < lo + m := by
    by_cases h : mid < m
    · have := hlo.1 h; omega
    · have := hlo.2 h; omega
  have hM := mono_sym hO (d := dk) (a := a) (m := m) (b := b) (n := n) (lo := lo) (hi := hi) (sortedIx_of hO (p := p) (u := u) (q := v ++ q) (by rw [hd]; simp) hu ha (by omega)) (sortedIx_of hO (p := p ++ u) (u := v) (q := q) hd hv (by simp; omega) (by simp; omega)) hb1.1 hb1.2.2.1 hb1.2.2.2.2.1 hb1.2.2.2.2.2.1 hb1.2.2.2.1
  have hend := fun s (hB : BS (fun c => !ltOf cf dk[n - 1 - c]! dk[c]!) lo hi s s) => sym_cut hO hd hu hv ha hm hb hmid hnn (by omega) hlo hB
  rw [← hpn] at hM hend
  have hB0 := BS.start (fun c => !ltOf cf dk[pn - c]! dk[c]!) hb1.2.1
  obtain ⟨tgt, htg⟩ : ∃ l, l = p ++ ssort (ltOf cf) (u ++ v) ++ q := ⟨_, rfl⟩
  have k1 : IntKind.i64.wrap ((m : Int) - (a : Int)) = (m : Int) - (a : Int) := IntWalk.i64_in _ (by omega)
  have k2 : ((m : Int) - (a : Int) == 1) = false := by rw [beq_eq_false_iff_ne]; omega
  have k3 : IntKind.i64.wrap ((b : Int) - (m : Int)) = (b : Int) - (m : Int) := IntWalk.i64_in _ (by omega)
  have k4 : ((b : Int) - (m : Int) == 1) = false := by rw [beq_eq_false_iff_ne]; omega
  have k5 : IntKind.i64.wrap ((a : Int) + (b : Int)) = (a : Int) + (b : Int) := IntWalk.i64_in _ (by omega)
  have k6 : ((a : Int) + (b : Int)) / 2 = (mid : Int) := by omega
  have k7 : IntKind.i64.wrap ((mid : Int) + (m : Int)) = (n : Int) := by rw [IntWalk.i64_in _ (by omega)]; omega
  have k8 : IntKind.i64.wrap ((n : Int) - 1) = (pn : Int) := by rw [IntWalk.i64_in _ (by omega)]; omega
  have ham : a < m := by omega
  have hmb : m < b := by omega
  have amid : a < mid := by omega
  have midb : mid < b := by omega
  rw [← htg]
  obtain ⟨N, hN⟩ : ∃ N, N = d0.size := ⟨_, rfl⟩
  rw [← hN] at hn hs hbn ⊢
  have IH' : MergeOf cf (enc f0 f1) g cb w0 blk off cap d0 nn := IH
  clear IH
  have hpp : p.length = a := ha.symm
  have HS := Lib.hid S; have HM := Lib.hid hM; have HB0 := Lib.hid hB0; have Hend := Lib.hid hend; have Htg := Lib.hid htg; have Hs := Lib.hid hs; have HN := Lib.hid hN; have HC := Lib.hid C; have HR := Lib.hid R; have HO := Lib.hid hO; have HIH' := Lib.hid IH'; have Hd := Lib.hid hd; have Hu := Lib.hid hu; have Hv := Lib.hid hv; have Ha := Lib.hid ha; have Hm := Lib.hid hm; have Hb := Lib.hid hb; have Hpp := Lib.hid hpp; have Hmid := Lib.hid hmid; have Hnn := Lib.hid hnn; have Hpn := Lib.hid hpn; have Hlo := Lib.hid hlo; have Hb1 := Lib.hid hb1; have Hn1 := Lib.hid hn1; clear S hM hB0 hend htg hs hN C R hO IH' hd hu hv ha hm hb hpp hmid hnn hpn hlo hb1 hn1
  go_enter Try.func145, Try.ntmps145
  go_upto_if 140 with fail
  clear k1 k2 k3 k4 k5 k6
  go_cut [20, 21] from 141 to 146 (fun x y wx => x = .int .i64 lo ∧ y = .int .i64 hi ∧ wx = w)
  case first =>
    by_cases hc : mid < m
    · obtain ⟨e1, e2⟩ := Hlo.out.1 hc
      have k9 : IntKind.i64.wrap ((n : Int) - (b : Int)) = (lo : Int) := by rw [IntWalk.i64_in _ (by have := Hmid.out; have := Hnn.out; omega)]; have := Hmid.out; have := Hnn.out; omega
      have k10 : decide ((mid : Int) < (m : Int)) = true := decide_eq_true (by omega)
      have He1 := Lib.hid e1; have He2 := Lib.hid e2; clear e1 e2
      go_wp2_with fail
      go_meet
      exact ⟨by rw [He1.out], by rw [He2.out], rfl⟩
    · obtain ⟨e1, e2⟩ := Hlo.out.2 hc
      have k10 : decide ((mid : Int) < (m : Int)) = false := decide_eq_false (by omega)
      have He1 := Lib.hid e1; have He2 := Lib.hid e2; clear e1 e2
      go_wp2_with fail
      go_meet
      exact ⟨by rw [He1.out], by rw [He2.out], rfl⟩
  case rest =>
    obtain ⟨rfl, rfl, rfl⟩ := hcut
    go_wp2_with fail
    clear k8
    go_loopw [20, 21] (fun x y wr => ∃ (i j : Nat), x = .int .i64 i ∧ y = .int .i64 j ∧ BS (fun c => !ltOf cf dk[pn - c]! dk[c]!) lo hi i j ∧ SWK (enc f0 f1) 2 w0 blk off dk wr) (fun x y _ => (intOf y).toNat - (intOf x).toNat)
    case atStart => exact ⟨lo, hi, rfl, rfl, HB0.out, HS.out⟩
    case round =>
      obtain ⟨i, j, rfl, rfl, hB, S⟩ := hrel
      have l1 := hB.l1
      have l2 := hB.l2
      have l3 := hB.l3
      by_cases hlt : i < j
      · have R := HR.out
        have C := HC.out
        have hs := Hs.out
        rw [HN.out] at hs
        have hN' := HN.out
        have hbb := Hb1.out
        have hpn := Hpn.out
        have hdks : dk.size = N := Hs.out
        obtain ⟨h, hh⟩ : ∃ h, h = (i + j) / 2 := ⟨_, rfl⟩
        have w1 : IntKind.i64.wrap ((i : Int) + (j : Int)) = (i : Int) + (j : Int) := IntWalk.i64_in _ (by omega)
        have w2 : ((i : Int) + (j : Int)) / 2 = (h : Int) := by omega
        have hpc : pn - h < N := by omega
        have hhc : h < N := by omega
        have hGR := fun n os => SWK.grown S n os
        have hp := fun n os => cells (SWK.grown S n os) R hs (pn - h) (by omega)
        obtain ⟨x, hx⟩ : ∃ v, v = dk[pn - h]! := ⟨_, rfl⟩
        have hq := fun n os => cells (SWK.grown S n os) R hs (h) (by omega)
        obtain ⟨y, hy⟩ : ∃ v, v = dk[h]! := ⟨_, rfl⟩
        have hc := fun n os => SWK.cmp S C hs x y n os
        rw [← hx] at hp
        rw [← hy] at hq
        obtain ⟨x0, hx0⟩ : ∃ v, v = f0 x := ⟨_, rfl⟩
        obtain ⟨x1, hx1⟩ : ∃ v, v = f1 x := ⟨_, rfl⟩
        obtain ⟨y0, hy0⟩ : ∃ v, v = f0 y := ⟨_, rfl⟩
        obtain ⟨y1, hy1⟩ : ∃ v, v = f1 y := ⟨_, rfl⟩
        rw [← hx0, ← hx1] at hp
        rw [← hy0, ← hy1] at hq
        have p0 := fun n os => (hp n os).1
        have p1 := fun n os => (hp n os).2.2.1
        have q0 := fun n os => (hq n os).1
        have q1 := fun n os => (hq n os).2.2.1
        clear hp hq
        have hcg : ∀ n os, Calls Try.prog g (#[.agg #[.string (x0), .string (x1)], .agg #[.string (y0), .string (y1)]] ++ cb) (grow (wr.drewN n) os) fun e w' => e = .returned (.int .i64 (cf x y)) ∧ ∃ q os', w' = grow ((grow (wr.drewN n) os).drewN q) os' := by rw [hx0, hy0, hx1, hy1]; exact hc
        clear hc
        obtain ⟨cv, hcv⟩ : ∃ v, v = cf x y := ⟨_, rfl⟩
        rw [← hcv] at hcg
        have hl : (h : Int) < (N : Int) := by omega
        have w3 : IntKind.i64.wrap ((pn : Int) - (h : Int)) = ((pn - h : Nat) : Int) := by rw [IntWalk.i64_in _ (by omega)]; omega
        obtain ⟨ph, hph⟩ : ∃ x, x = pn - h := ⟨_, rfl⟩
        have al : (ph : Int) < (N : Int) := by omega
        rw [← hph] at w3
        rw [← hph] at p0 p1
        have hij1 : i ≤ h := by omega
        have hij2 : h < j := by omega
        clear S hs R C hN' hbb hpn hdks hpc hhc
        cases hdec : decide (cv < 0) with
        | true =>
          have hB2 := hB.right HM.out hij1 hij2 (by show (!ltOf cf dk[pn - h]! dk[h]!) = false; rw [← hx, ← hy]; unfold ltOf; rw [← hcv, hdec]; rfl)
          have hlv : cv < 0 := of_decide_eq_true hdec
          have hdn : (!decide (cv < 0)) = false := by rw [hdec]; rfl
          have HB := Lib.hid hB; have HB2 := Lib.hid hB2; have Hx := Lib.hid hx; have Hy := Lib.hid hy; have Hx0 := Lib.hid hx0; have Hy0 := Lib.hid hy0; have Hx1 := Lib.hid hx1; have Hy1 := Lib.hid hy1; have HGR := Lib.hid hGR; have Hcv := Lib.hid hcv; have Hh := Lib.hid hh; have Hdec := Lib.hid hdec; have Hph := Lib.hid hph; clear hB hB2 hx hy hx0 hy0 hx1 hy1 hGR hcv hh hdec hph
          go_wp2_with fail
          have mixed : Try.prog.follows .mixedOrders = true := by kernel_rfl
          go_quiet_grown (first | (go_at_fn g; refine Calls.grown_of (hcg _ _)))
          go_wp2_with fail
          go_roundw
          case rel => exact ⟨i, h, rfl, rfl, HB2.out, HGR.out _ _⟩
          case measure => simp [intOf]; omega
        | false =>
          have hB2 := hB.left HM.out hij1 hij2 (by show (!ltOf cf dk[pn - h]! dk[h]!) = true; rw [← hx, ← hy]; unfold ltOf; rw [← hcv, hdec]; rfl)
          have hlv : ¬ cv < 0 := of_decide_eq_false hdec
          have hdn : (!decide (cv < 0)) = true := by rw [hdec]; rfl
          have HB := Lib.hid hB; have HB2 := Lib.hid hB2; have Hx := Lib.hid hx; have Hy := Lib.hid hy; have Hx0 := Lib.hid hx0; have Hy0 := Lib.hid hy0; have Hx1 := Lib.hid hx1; have Hy1 := Lib.hid hy1; have HGR := Lib.hid hGR; have Hcv := Lib.hid hcv; have Hh := Lib.hid hh; have Hdec := Lib.hid hdec; have Hph := Lib.hid hph; clear hB hB2 hx hy hx0 hy0 hx1 hy1 hGR hcv hh hdec hph
          go_wp2_with fail
          have mixed : Try.prog.follows .mixedOrders = true := by kernel_rfl
          go_quiet_grown (first | (go_at_fn g; refine Calls.grown_of (hcg _ _)))
          go_wp2_with fail
          go_roundw
          case rel => exact ⟨h + 1, j, by go_num, rfl, HB2.out, HGR.out _ _⟩
          case measure => simp [intOf]; omega
      · obtain rfl : i = j := by omega
        have hE := Hend.out i hB
        have HB := Lib.hid hB; have HS := Lib.hid S; have HE := Lib.hid hE; clear hB S hE
        obtain ⟨x1, x2, y1, y2, e1, e2, e3, e4, e5⟩ := HE.out
        have hwn : IntKind.i64.wrap ((n : Int) - (i : Int)) = ((n - i : Nat) : Int) := by
          have := Hb1.out; have := Hnn.out; have := Hmid.out
          rw [IntWalk.i64_in _ (by omega)]; omega
        have c1 : i < m ↔ 0 < x2.length := by
          have := Hm.out; rw [e1, List.length_append] at this; omega
        have c2 : m < n - i ↔ 0 < y1.length := by omega
        have hln : x1.length + y1.length = mid - a := by have := Hnn.out; omega
        have c3 : a < i ↔ 0 < x1.length := by omega
        have c4 : i < mid ↔ 0 < y1.length := by omega
        have hlv : m + (y1.length + y2.length) = b := by have := Hb.out; rw [e2, List.length_append] at this; omega
        have hlu : a + (x1.length + x2.length) = m := by have := Hm.out; rw [e1, List.length_append] at this; omega
        have c5 : mid < n - i ↔ 0 < x2.length := by have := Hnn.out; omega
        have c6 : n - i < b ↔ 0 < y2.length := by omega
        obtain ⟨en, hen⟩ : ∃ x, x = n - i := ⟨_, rfl⟩
        rw [← hen] at hwn c2 c5 c6 e4
        -- the rotation
        have A0 : ∀ wr, SWK (enc f0 f1) 2 w0 blk off dk wr → 0 < x2.length → 0 < y1.length → Calls Try.prog 156 #[.slice (some ⟨blk, off, none⟩) N cap, .int .i64 i, .int .i64 m, .int .i64 en, .func (.func g) #[] cb] wr (Now (enc f0 f1) 2 w0 blk off (p ++ x1 ++ y1 ++ x2 ++ (y2 ++ q))) := fun wr S h1 h2 => by
          have := rotate_any (p := p ++ x1) (u := x2) (v := y1) (q := y2 ++ q) (a := i) (m := m) (b := en) HR.out S (by rw [Hd.out, e1, e2]; simp) (by rw [Hs.out, HN.out]) (by rw [List.length_append, Hpp.out]; omega) (by omega) (by omega) h1 h2 cap (by rw [← HN.out]; exact hn) (.func (.func g) #[] cb)
          rw [← HN.out] at this
          exact this
        have A1 : (¬ 0 < x2.length ∨ ¬ 0 < y1.length) → At (enc f0 f1) w0 blk off (p ++ x1 ++ y1 ++ x2 ++ (y2 ++ q)) wr := fun h => by
          refine ⟨dk, HS.out, ?_⟩
          rw [Hd.out, e1, e2]
          rcases h with h | h
          · have : x2 = [] := List.eq_nil_of_length_eq_zero (by omega)
            subst this; simp
          · have : y1 = [] := List.eq_nil_of_length_eq_zero (by omega)
            subst this; simp
        have hsz : ∀ d : Array α, d.toList = p ++ x1 ++ y1 ++ x2 ++ (y2 ++ q) → d.size = d0.size := fun d h => by
          rw [← HN.out, ← Hs.out, ← Array.length_toList, ← Array.length_toList, h, Hd.out, e1, e2]
          simp only [List.length_append]; omega
        have hsz2 : ∀ d : Array α, d.toList = p ++ ssort (ltOf cf) (x1 ++ y1) ++ x2 ++ (y2 ++ q) → d.size = d0.size := fun d h => by
          rw [← HN.out, ← Hs.out, ← Array.length_toList, ← Array.length_toList, h, Hd.out, e1, e2]
          simp only [List.length_append, ssort_len HO.out]; omega
        have su : Sorted (ltOf cf) x1 ∧ Sorted (ltOf cf) x2 := by have := Hu.out; rw [e1] at this; exact ⟨(List.pairwise_append.1 this).1, (List.pairwise_append.1 this).2.1⟩
        have sv : Sorted (ltOf cf) y1 ∧ Sorted (ltOf cf) y2 := by have := Hv.out; rw [e2] at this; exact ⟨(List.pairwise_append.1 this).1, (List.pairwise_append.1 this).2.1⟩
        have B0 : ∀ wr, At (enc f0 f1) w0 blk off (p ++ x1 ++ y1 ++ x2 ++ (y2 ++ q)) wr → 0 < x1.length → 0 < y1.length → Calls Try.prog 145 #[.slice (some ⟨blk, off, none⟩) N cap, .int .i64 a, .int .i64 i, .int .i64 mid, .func (.func g) #[] cb] wr (Now (enc f0 f1) 2 w0 blk off (p ++ ssort (ltOf cf) (x1 ++ y1) ++ (x2 ++ (y2 ++ q)))) := fun wr ⟨d, S, h⟩ h1 h2 => by
          have := HIH'.out d wr p x1 y1 (x2 ++ (y2 ++ q)) a i mid S (by rw [h]; simp) (hsz d h) su.1 sv.1 Hpp.out.symm (by omega) (by omega) h1 h2 (by have := Hn1.out; omega)
          rw [← HN.out] at this
          exact this
        have B1 : ∀ wr, At (enc f0 f1) w0 blk off (p ++ x1 ++ y1 ++ x2 ++ (y2 ++ q)) wr → (¬ 0 < x1.length ∨ ¬ 0 < y1.length) → At (enc f0 f1) w0 blk off (p ++ ssort (ltOf cf) (x1 ++ y1) ++ (x2 ++ (y2 ++ q))) wr := fun wr ⟨d, S, h⟩ h1 => by
          refine ⟨d, S, ?_⟩
          rw [h]
          rcases h1 with h1 | h1
          · have : x1 = [] := List.eq_nil_of_length_eq_zero (by omega)
            subst this; simp only [List.append_nil, List.nil_append, ssort_id HO.out sv.1, List.append_assoc]
          · have : y1 = [] := List.eq_nil_of_length_eq_zero (by omega)
            subst this; simp only [List.append_nil, List.nil_append, ssort_id HO.out su.1, List.append_assoc]
        have D0 : ∀ wr, At (enc f0 f1) w0 blk off (p ++ ssort (ltOf cf) (x1 ++ y1) ++ (x2 ++ (y2 ++ q))) wr → 0 < x2.length → 0 < y2.length → Calls Try.prog 145 #[.slice (some ⟨blk, off, none⟩) N cap, .int .i64 mid, .int .i64 en, .int .i64 b, .func (.func g) #[] cb] wr (Now (enc f0 f1) 2 w0 blk off tgt) := fun wr ⟨d, S, h⟩ h1 h2 => by
          have := HIH'.out d wr (p ++ ssort (ltOf cf) (x1 ++ y1)) x2 y2 q mid en b S (by rw [h]; simp) (hsz2 d (by rw [h]; simp)) su.2 sv.2 (by rw [List.length_append, ssort_len HO.out, List.length_append, Hpp.out]; omega) (by omega) (by omega) h1 h2 (by have := Hn1.out; omega)
          rw [← HN.out] at this
          rw [Htg.out, e5]
          simpa using this
        have D1 : ∀ wr, At (enc f0 f1) w0 blk off (p ++ ssort (ltOf cf) (x1 ++ y1) ++ (x2 ++ (y2 ++ q))) wr → (¬ 0 < x2.length ∨ ¬ 0 < y2.length) → At (enc f0 f1) w0 blk off tgt wr := fun wr ⟨d, S, h⟩ h1 => by
          refine ⟨d, S, ?_⟩
          rw [h, Htg.out, e5]
          rcases h1 with h1 | h1
          · have : x2 = [] := List.eq_nil_of_length_eq_zero (by omega)
            subst this; simp only [List.append_nil, List.nil_append, ssort_id HO.out sv.2, List.append_assoc]
          · have : y2 = [] := List.eq_nil_of_length_eq_zero (by omega)
            subst this; simp only [List.append_nil, List.nil_append, ssort_id HO.out su.2, List.append_assoc]
        -- which of the parts hold elements
        obtain ⟨X1, hX1⟩ : ∃ c, c = decide (0 < x1.length) := ⟨_, rfl⟩
        obtain ⟨X2, hX2⟩ : ∃ c, c = decide (0 < x2.length) := ⟨_, rfl⟩
        obtain ⟨Y1, hY1⟩ : ∃ c, c = decide (0 < y1.length) := ⟨_, rfl⟩
        obtain ⟨Y2, hY2⟩ : ∃ c, c = decide (0 < y2.length) := ⟨_, rfl⟩
        have g1 : decide ((i : Int) < (m : Int)) = X2 := by rw [hX2]; exact decide_eq_decide.2 (by omega)
        have g2 : decide ((m : Int) < (en : Int)) = Y1 := by rw [hY1]; exact decide_eq_decide.2 (by omega)
        have g3 : decide ((a : Int) < (i : Int)) = X1 := by rw [hX1]; exact decide_eq_decide.2 (by omega)
        have g4 : decide ((i : Int) < (mid : Int)) = Y1 := by rw [hY1]; exact decide_eq_decide.2 (by omega)
        have g5 : decide ((mid : Int) < (en : Int)) = X2 := by rw [hX2]; exact decide_eq_decide.2 (by omega)
        have g6 : decide ((en : Int) < (b : Int)) = Y2 := by rw [hY2]; exact decide_eq_decide.2 (by omega)
        have r1 : decide (i < m) = X2 := by rw [hX2]; exact decide_eq_decide.2 (by omega)
        have r2 : decide (m < en) = Y1 := by rw [hY1]; exact decide_eq_decide.2 (by omega)
        have r3 : decide (a < i) = X1 := by rw [hX1]; exact decide_eq_decide.2 (by omega)
        have r4 : decide (i < mid) = Y1 := by rw [hY1]; exact decide_eq_decide.2 (by omega)
        have r5 : decide (mid < en) = X2 := by rw [hX2]; exact decide_eq_decide.2 (by omega)
        have r6 : decide (en < b) = Y2 := by rw [hY2]; exact decide_eq_decide.2 (by omega)
        clear c1 c2 c3 c4 c5 c6 e1 e2 e3 e4 e5 hln hlv hlu l1 l2 l3 hlt
        have HA0 := Lib.hid A0; have HA1 := Lib.hid A1; have HB0 := Lib.hid B0; have HB1 := Lib.hid B1; have HD0 := Lib.hid D0; have HD1 := Lib.hid D1; have HX1 := Lib.hid hX1; have HX2 := Lib.hid hX2; have HY1 := Lib.hid hY1; have HY2 := Lib.hid hY2; have Hsz := Lib.hid hsz; have Hsz2 := Lib.hid hsz2; have Hsu := Lib.hid su; have Hsv := Lib.hid sv; have Hen := Lib.hid hen; clear A0 A1 B0 B1 D0 D1 hX1 hX2 hY1 hY2 hsz hsz2 su sv hen
        go_upto_region 39 with fail
        go_cut [185] from 178 to 185 (fun x wx => x = .bool (X2 && Y1) ∧ wx = wr)
        case first => cases X2 <;> cases Y1 <;> (go_wp2_with fail; go_meet; exact ⟨rfl, rfl⟩)
        case rest =>
        obtain ⟨rfl, rfl⟩ := hcut
        go_upto_if 185 with fail
        go_cut [] from 178 to 191 (fun wx => At (enc f0 f1) w0 blk off (p ++ x1 ++ y1 ++ x2 ++ (y2 ++ q)) wx)
        case first =>
          cases hc : (X2 && Y1) with
          | true =>
            have hc2 := HA0.out _ HS.out (and_yes HX2.out HY1.out hc).1 (and_yes HX2.out HY1.out hc).2
            have Hc := Lib.hid hc; have Hc2 := Lib.hid hc2; clear hc hc2
            go_wp2_with fail
            refine Hc2.out.mono ?_
            rintro e w2 ⟨rfl, hw2⟩
            have Hw2 := Lib.hid hw2; clear hw2
            go_wp2_with fail
            go_meet
            exact Hw2.out
          | false =>
            have hc2 := HA1.out (and_no HX2.out HY1.out hc)
            have Hc := Lib.hid hc; have Hc2 := Lib.hid hc2; clear hc hc2
            go_wp2_with fail
            go_meet
            exact Hc2.out
        case rest =>
        have hA := hcut
        clear hcut
        have HA := Lib.hid hA; clear hA
        go_upto_region 41 with fail
        go_cut [199] from 192 to 199 (fun x wx => x = .bool (X1 && Y1) ∧ wx = wc)
        case first => cases X1 <;> cases Y1 <;> (go_wp2_with fail; go_meet; exact ⟨rfl, rfl⟩)
        case rest =>
        obtain ⟨rfl, rfl⟩ := hcut
        go_upto_if 199 with fail
        go_cut [] from 192 to 205 (fun wx => At (enc f0 f1) w0 blk off (p ++ ssort (ltOf cf) (x1 ++ y1) ++ (x2 ++ (y2 ++ q))) wx)
        case first =>
          cases hc : (X1 && Y1) with
          | true =>
            have hc2 := HB0.out _ HA.out (and_yes HX1.out HY1.out hc).1 (and_yes HX1.out HY1.out hc).2
            have Hc := Lib.hid hc; have Hc2 := Lib.hid hc2; clear hc hc2
            go_wp2_with fail
            refine Hc2.out.mono ?_
            rintro e w2 ⟨rfl, hw2⟩
            have Hw2 := Lib.hid hw2; clear hw2
            go_wp2_with fail
            go_meet
            exact Hw2.out
          | false =>
            have hc2 := HB1.out _ HA.out (and_no HX1.out HY1.out hc)
            have Hc := Lib.hid hc; have Hc2 := Lib.hid hc2; clear hc hc2
            go_wp2_with fail
            go_meet
            exact Hc2.out
        case rest =>
        have hB := hcut
        clear hcut
        have HB := Lib.hid hB; clear hB
        go_upto_region 43 with fail
        go_cut [213] from 206 to 213 (fun x wx => x = .bool (X2 && Y2) ∧ wx = wc)
        case first => cases X2 <;> cases Y2 <;> (go_wp2_with fail; go_meet; exact ⟨rfl, rfl⟩)
        case rest =>
        obtain ⟨rfl, rfl⟩ := hcut
        go_upto_if 213 with fail
        cases hc : (X2 && Y2) with
        | true =>
          have hc2 := HD0.out _ HB.out (and_yes HX2.out HY2.out hc).1 (and_yes HX2.out HY2.out hc).2
          have Hc := Lib.hid hc; have Hc2 := Lib.hid hc2; clear hc hc2
          go_wp2_with fail
          refine Hc2.out.mono ?_
          rintro e w2 ⟨rfl, hw2⟩
          have Hw2 := Lib.hid hw2; clear hw2
          go_wp2_with fail
          go_end0
          exact ⟨rfl, Hw2.out⟩
        | false =>
          have hc2 := HD1.out _ HB.out (and_no HX2.out HY2.out hc)
          have Hc := Lib.hid hc; have Hc2 := Lib.hid hc2; clear hc hc2
          go_wp2_with fail
          go_end0
          exact ⟨rfl, Hc2.out⟩
end StbSet
end Go.Proofs.Ytnelgellbabkoaa

/- The walks of slices.SortStableFunc at api.Setting: insertionSortCmpFunc. Printed by gen_stb.py. -/
namespace Go.Proofs.Ytnelgellbabkoaa
open Go.Shelf Go.RowKit Go.Lib Go.Sort SortM StbA StbB
namespace StbSet
variable {α : Type} [Inhabited α] {f0 : α → ByteArray} {f1 : α → ByteArray} {w0 : World} {blk off : Nat} {d0 : Array α}
variable {cf : α → α → Int} {g : Nat} {cb : Array Value}
set_option maxRecDepth 10000 in
set_option maxHeartbeats 8000000 in
theorem insertion_any {d : Array α} {w : World} (R : RowK (enc f0 f1) 2 w0 blk off d0) (S : SWK (enc f0 f1) 2 w0 blk off d w) (C : CmpLays Try.prog g cb (enc f0 f1) 2 cf blk off d0.size w0) (eg : ∀ args w, (callFunc g args).run Try.prog w = .ok (.enter g args) w)
    (hs : d.size = d0.size) {a b : Nat} (hab : a ≤ b) (hb : b ≤ d0.size) (cap : Nat) (hn : d0.size ≤ 1000000) :
    Calls Try.prog 144 #[.slice (some ⟨blk, off, none⟩) d0.size cap, .int .i64 a, .int .i64 b, .func (.func g) #[] cb] w fun e w' => e = .returned (.tuple #[]) ∧ SWK (enc f0 f1) 2 w0 blk off (Sort.insertionSort (ltOf cf) d a b) w' := by
  obtain ⟨N, hN⟩ : ∃ N, N = d0.size := ⟨_, rfl⟩
  rw [← hN] at hn hs hb ⊢
  have HS := Lib.hid S; have Hs := Lib.hid hs; have HN := Lib.hid hN; have HC := Lib.hid C; have HR := Lib.hid R; clear S hs hN C R
  go_enter Try.func144, Try.ntmps144
  go_wp2_with fail
  go_loopw [8] (fun x wr => ∃ (i : Nat) (dk : Array α), x = .int .i64 i ∧ a < i ∧ i ≤ b + 1 ∧ dk.size = N ∧ SWK (enc f0 f1) 2 w0 blk off dk wr ∧ insOuter (ltOf cf) a b i dk = insOuter (ltOf cf) a b (a + 1) d) (fun x _ => b + 1 - (intOf x).toNat)
  case atStart => exact ⟨a + 1, d, by go_num, by omega, by omega, Hs.out, HS.out, rfl⟩
  case round =>
    obtain ⟨i, dk, rfl, hai, hib, hsk, S, hO⟩ := hrel
    by_cases hlt : i < b
    · have w1 : IntKind.i64.wrap ((i : Int) + 1) = (i : Int) + 1 := IntWalk.i64_in _ (by omega)
      have hltz : (i : Int) < (b : Int) := by omega
      have HO := Lib.hid hO; have HS := Lib.hid S; have Hsk := Lib.hid hsk; clear hO S hsk
      go_wp2_with fail
      go_loopw [9] (fun x wq => ∃ (j : Nat) (dj : Array α), x = .int .i64 j ∧ a ≤ j ∧ j ≤ i ∧ dj.size = N ∧ SWK (enc f0 f1) 2 w0 blk off dj wq ∧ insInner (ltOf cf) a j dj = insInner (ltOf cf) a i dk) (fun x _ => (intOf x).toNat)
      case atStart => exact ⟨i, dk, rfl, by omega, Nat.le_refl _, Hsk.out, HS.out, rfl⟩
      case round =>
        obtain ⟨j, dj, rfl, haj, hji, hl, S, hI⟩ := hrel
        have out : (j ≤ a ∨ ltOf cf dj[j]! dj[j - 1]! = false) → insOuter (ltOf cf) a b (i + 1) dj = insOuter (ltOf cf) a b (a + 1) d := fun hs => by
          rw [← HO.out, insOuter_go _ _ _ _ _ hlt, ← hI, insInner_stop _ _ _ _ hs]
        by_cases hja : a < j
        · obtain ⟨jp, rfl⟩ : ∃ jp, j = jp + 1 := ⟨j - 1, by omega⟩
          have hlt2 := hlt
          have R := HR.out
          have C := HC.out
          rw [HN.out] at hl
          have hN' := HN.out
          have hGR := fun n os => SWK.grown S n os
          have hp := fun n os => cells (SWK.grown S n os) R hl (jp + 1) (by omega)
          obtain ⟨x, hx⟩ : ∃ v, v = dj[jp + 1]! := ⟨_, rfl⟩
          have hq := fun n os => cells (SWK.grown S n os) R hl (jp) (by omega)
          obtain ⟨y, hy⟩ : ∃ v, v = dj[jp]! := ⟨_, rfl⟩
          have hc := fun n os => SWK.cmp S C hl x y n os
          rw [← hx] at hp
          rw [← hy] at hq
          obtain ⟨x0, hx0⟩ : ∃ v, v = f0 x := ⟨_, rfl⟩
          obtain ⟨x1, hx1⟩ : ∃ v, v = f1 x := ⟨_, rfl⟩
          obtain ⟨y0, hy0⟩ : ∃ v, v = f0 y := ⟨_, rfl⟩
          obtain ⟨y1, hy1⟩ : ∃ v, v = f1 y := ⟨_, rfl⟩
          rw [← hx0, ← hx1] at hp
          rw [← hy0, ← hy1] at hq
          have p0 := fun n os => (hp n os).1
          have p1 := fun n os => (hp n os).2.2.1
          have q0 := fun n os => (hq n os).1
          have q1 := fun n os => (hq n os).2.2.1
          clear hp hq
          have hcg : ∀ n os, Calls Try.prog g (#[.agg #[.string (x0), .string (x1)], .agg #[.string (y0), .string (y1)]] ++ cb) (grow (wr.drewN n) os) fun e w' => e = .returned (.int .i64 (cf x y)) ∧ ∃ q os', w' = grow ((grow (wr.drewN n) os).drewN q) os' := by rw [hx0, hy0, hx1, hy1]; exact hc
          clear hc
          obtain ⟨cv, hcv⟩ : ∃ v, v = cf x y := ⟨_, rfl⟩
          rw [← hcv] at hcg
          have w2 : IntKind.i64.wrap (jp : Int) = (jp : Int) := IntWalk.i64_in _ (by omega)
          have n2 : ((jp : Int) + 1).toNat = jp + 1 := by omega
          have u2 : (0 : Int) ≤ (jp : Int) + 1 := by omega
          have v1 : (jp : Int) < (N : Int) := by omega
          have v2 : (jp : Int) + 1 < (N : Int) := by omega
          have v3 : (a : Int) < (jp : Int) + 1 := by omega
          clear S R C hN'
          cases hdec : decide (cv < 0) with
          | true =>
            have hlv : cv < 0 := of_decide_eq_true hdec
            have hI2 : insInner (ltOf cf) a jp (swp dj (jp + 1) jp) = insInner (ltOf cf) a i dk := by
              rw [← hI]
              have := insInner_go (ltOf cf) a (jp + 1) dj hja (by simp only [Nat.add_sub_cancel]; rw [← hx, ← hy]; unfold ltOf; rw [← hcv]; exact hdec)
              simp only [Nat.add_sub_cancel] at this
              exact this.symm
            have HI := Lib.hid hI; have HI2 := Lib.hid hI2; have Hl := Lib.hid hl; have Hout := Lib.hid out; have Hx := Lib.hid hx; have Hy := Lib.hid hy; have Hx0 := Lib.hid hx0; have Hy0 := Lib.hid hy0; have Hx1 := Lib.hid hx1; have Hy1 := Lib.hid hy1; have HGR := Lib.hid hGR; have Hcv := Lib.hid hcv; have Hdec := Lib.hid hdec; clear hI hI2 hl out hx hy hx0 hy0 hx1 hy1 hGR hcv hdec
            go_wp2_with fail
            have mixed : Try.prog.follows .mixedOrders = true := by kernel_rfl
            go_quiet_grown (first | (go_at_fn g; refine Calls.grown_of (hcg _ _)))
            go_wp2_with fail
            have S := HGR.out nq osq
            clear hcg p0 q0 p1 q1
            obtain ⟨w2, hw2⟩ : ∃ w2, w2 = grow (wr.drewN nq) osq := ⟨_, rfl⟩
            rw [← hw2] at S ⊢
            have R := HR.out
            have hl := Hl.out
            have hN' := HN.out
            have hEX := exch S R (jp + 1) (jp) (by omega) (by omega)
            obtain ⟨p0, pf0, p1, pf1⟩ := cells S R hl (jp + 1) (by omega)
            obtain ⟨q0, qf0, q1, qf1⟩ := cells S R hl (jp) (by omega)
            obtain ⟨x, hx⟩ : ∃ x, x = dj[jp + 1]! := ⟨_, rfl⟩
            obtain ⟨y, hy⟩ : ∃ y, y = dj[jp]! := ⟨_, rfl⟩
            rw [← hx] at p0 p1 hEX
            rw [← hy] at q0 q1 hEX
            obtain ⟨x0, hx0⟩ : ∃ v, v = f0 x := ⟨_, rfl⟩
            obtain ⟨y0, hy0⟩ : ∃ v, v = f0 y := ⟨_, rfl⟩
            rw [← hx0] at p0 hEX
            rw [← hy0] at q0 hEX
            obtain ⟨x1, hx1⟩ : ∃ v, v = f1 x := ⟨_, rfl⟩
            obtain ⟨y1, hy1⟩ : ∃ v, v = f1 y := ⟨_, rfl⟩
            rw [← hx1] at p1 hEX
            rw [← hy1] at q1 hEX
            have na00 : ¬ off + (jp + 1) * 2 = off + (jp) * 2 := by omega
            have nb00 : ¬ off + (jp) * 2 = off + (jp + 1) * 2 := by omega
            have na01 : ¬ off + (jp + 1) * 2 = off + (jp) * 2 + 1 := by omega
            have nb01 : ¬ off + (jp) * 2 = off + (jp + 1) * 2 + 1 := by omega
            have na10 : ¬ off + (jp + 1) * 2 + 1 = off + (jp) * 2 := by omega
            have nb10 : ¬ off + (jp) * 2 + 1 = off + (jp + 1) * 2 := by omega
            have na11 : ¬ off + (jp + 1) * 2 + 1 = off + (jp) * 2 + 1 := by omega
            have nb11 : ¬ off + (jp) * 2 + 1 = off + (jp + 1) * 2 + 1 := by omega
            clear S R hN'
            have Hl := Lib.hid hl; have Hw2 := Lib.hid hw2; have Hx := Lib.hid hx; have Hy := Lib.hid hy; have Hx0 := Lib.hid hx0; have Hy0 := Lib.hid hy0; have Hx1 := Lib.hid hx1; have Hy1 := Lib.hid hy1; have HEX := Lib.hid hEX; clear hl hw2 hx hy hx0 hy0 hx1 hy1 hEX
            go_wp2_with fail
            go_region
            all_goals
              go_wp2_with fail
              go_roundw
              case rel => exact ⟨jp, _, rfl, by omega, by omega, by rw [size_swp, Hl.out, HN.out], HEX.out, HI2.out⟩
              case measure => simp [intOf] <;> omega
          | false =>
            have hlv : ¬ cv < 0 := of_decide_eq_false hdec
            have hO2 := out (Or.inr (by simp only [Nat.add_sub_cancel]; rw [← hx, ← hy]; unfold ltOf; rw [← hcv]; exact hdec))
            have HI := Lib.hid hI; have HO2 := Lib.hid hO2; have Hl := Lib.hid hl; have Hout := Lib.hid out; have Hx := Lib.hid hx; have Hy := Lib.hid hy; have Hx0 := Lib.hid hx0; have Hy0 := Lib.hid hy0; have Hx1 := Lib.hid hx1; have Hy1 := Lib.hid hy1; have HGR := Lib.hid hGR; have Hcv := Lib.hid hcv; have Hdec := Lib.hid hdec; clear hI hO2 hl out hx hy hx0 hy0 hx1 hy1 hGR hcv hdec
            go_wp2_with fail
            have mixed : Try.prog.follows .mixedOrders = true := by kernel_rfl
            go_quiet_grown (first | (go_at_fn g; refine Calls.grown_of (hcg _ _)))
            go_wp2_with fail
            go_roundw
            case rel => exact ⟨i + 1, dj, by go_num, by omega, by omega, by rw [Hl.out, HN.out], HGR.out _ _, HO2.out⟩
            case measure => simp [intOf]; omega
        · have v3 : ¬ (a : Int) < (j : Int) := by omega
          have v4 : decide ((a : Int) < (j : Int)) = false := decide_eq_false v3
          have hO2 := out (Or.inl (by omega))
          have hGR := S.drew
          have HI := Lib.hid hI; have HO2 := Lib.hid hO2; have Hl := Lib.hid hl; have Hout := Lib.hid out; have HS := Lib.hid S; have HGR := Lib.hid hGR; clear hI hO2 hl out S hGR
          go_wp2_with fail
          go_region
          all_goals
            go_wp2_with fail
            go_roundw
            case rel => exact ⟨i + 1, dj, by go_num, by omega, by omega, Hl.out, HGR.out, HO2.out⟩
            case measure => simp [intOf]; omega
    · have hltz : ¬ (i : Int) < (b : Int) := by omega
      have hE : dk = Sort.insertionSort (ltOf cf) d a b := by unfold Sort.insertionSort; rw [← hO, insOuter_stop _ _ _ _ _ hlt]
      rw [hE] at S
      have HS := Lib.hid S; have HO := Lib.hid hO; have HE := Lib.hid hE; clear S hO hE
      go_wp2_with fail
      go_end0
      exact ⟨rfl, HS.out⟩
end StbSet
end Go.Proofs.Ytnelgellbabkoaa

/- The walks of slices.SortStableFunc at api.Setting: stableCmpFunc and SortStableFunc. Printed by gen_stb.py. -/
namespace Go.Proofs.Ytnelgellbabkoaa
open Go.Shelf Go.RowKit Go.Lib Go.Sort SortM StbA StbB
namespace StbSet
variable {α : Type} [Inhabited α] {f0 : α → ByteArray} {f1 : α → ByteArray} {w0 : World} {blk off : Nat} {d0 : Array α}
variable {cf : α → α → Int} {g : Nat} {cb : Array Value}
theorem merge_any (R : RowK (enc f0 f1) 2 w0 blk off d0) (C : CmpLays Try.prog g cb (enc f0 f1) 2 cf blk off d0.size w0) (eg : ∀ args w, (callFunc g args).run Try.prog w = .ok (.enter g args) w) (hO : Swo (ltOf cf)) (cap : Nat) (hn : d0.size ≤ 1000000) : ∀ n, MergeOf cf (enc f0 f1) g cb w0 blk off cap d0 n := by
  intro n
  induction n with
  | zero => intro dk w p u v q a m b S hd hs hu hv ha hm hb h1 h2 hle; omega
  | succ n IH =>
    intro dk w p u v q a m b S hd hs hu hv ha hm hb h1 h2 hle
    match u, hd, hu, hm, h1 with
    | [], _, _, _, h1 => simp at h1
    | [x], hd, hu, hm, h1 => exact merge_left R S C eg hO (p := p) (v := v) (q := q) (x := x) (by rw [hd]; simp) hs hv ha (by simpa using hm) hb cap hn
    | x :: x2 :: u, hd, hu, hm, h1 =>
      match v, hd, hv, hb, h2 with
      | [], _, _, _, h2 => simp at h2
      | [y], hd, hv, hb, h2 => exact merge_right R S C eg hO (p := p) (u := x :: x2 :: u) (q := q) (x := y) (by rw [hd]; simp) hs hu ha hm (by simpa using hb) (by simp) cap hn
      | y :: y2 :: v, hd, hv, hb, h2 => exact merge_gen R S C eg hO hd hs hu hv ha hm hb (by simp) (by simp) hle cap hn IH
set_option maxRecDepth 10000 in
set_option maxHeartbeats 8000000 in
theorem stable_any (R : RowK (enc f0 f1) 2 w0 blk off d0) (C : CmpLays Try.prog g cb (enc f0 f1) 2 cf blk off d0.size w0) (eg : ∀ args w, (callFunc g args).run Try.prog w = .ok (.enter g args) w) (hO : Swo (ltOf cf)) (cap : Nat) (hn : d0.size ≤ 1000000) :
    Calls Try.prog 122 #[.slice (some ⟨blk, off, none⟩) d0.size cap, .int .i64 d0.size, .func (.func g) #[] cb] w0 (Now (enc f0 f1) 2 w0 blk off (ssort (ltOf cf) d0.toList)) := by
  have hM := merge_any R C eg hO cap hn d0.size
  have hS : SWK (enc f0 f1) 2 w0 blk off d0 w0 := SWK.start R.hH
  have hI := fun (dk : Array α) (wr : World) (a b : Nat) (S : SWK (enc f0 f1) 2 w0 blk off dk wr) (hs : dk.size = d0.size) (hab : a ≤ b) (hb : b ≤ d0.size) => insertion_any R S C eg hs hab hb cap hn
  obtain ⟨l0, hl0⟩ : ∃ l, l = d0.toList := ⟨_, rfl⟩
  have hlen : l0.length = d0.size := by rw [hl0, Array.length_toList]
  have hP0 : P1 (ltOf cf) l0 20 0 d0 := P1.start l0 20 hl0.symm
  rw [← hl0]
  unfold MergeOf at hM
  obtain ⟨N, hN⟩ : ∃ N, N = d0.size := ⟨_, rfl⟩
  rw [← hN] at hn hlen hI hM ⊢
  have HM := Lib.hid hM; have HS := Lib.hid hS; have HI := Lib.hid hI; have Hl0 := Lib.hid hl0; have Hlen := Lib.hid hlen; have HP0 := Lib.hid hP0; have HN := Lib.hid hN; have HC := Lib.hid C; have HR := Lib.hid R; have HO := Lib.hid hO; clear hM hS hI hl0 hlen hP0 hN C R hO
  go_enter Try.func122, Try.ntmps122
  go_wp2_with fail
  go_loopw [7, 8] (fun x y wr => ∃ (a : Nat) (dk : Array α), x = .int .i64 a ∧ y = .int .i64 ((a : Int) + 20) ∧ P1 (ltOf cf) l0 20 a dk ∧ SWK (enc f0 f1) 2 w0 blk off dk wr) (fun x _ _ => N + 20 - (intOf x).toNat)
  case atStart => exact ⟨0, d0, rfl, rfl, HP0.out, HS.out⟩
  case round =>
    obtain ⟨a, dk, rfl, rfl, hP, S⟩ := hrel
    have hle := hP.le
    rw [Hlen.out] at hle
    have hsz := hP.size HO.out
    rw [Hlen.out] at hsz
    by_cases hlt : a + 20 ≤ N
    · have v1 : decide ((a : Int) + 20 ≤ (N : Int)) = true := decide_eq_true (by omega)
      have v2 : (a : Int) + 20 ≤ (N : Int) := by omega
      have w1 : IntKind.i64.wrap ((a : Int) + 20 + 20) = (a : Int) + 20 + 20 := IntWalk.i64_in _ (by omega)
      have hc := HI.out dk wr a (a + 20) S (by rw [hsz]) (by omega) (by omega)
      rw [show ((a + 20 : Nat) : Int) = (a : Int) + 20 by omega] at hc
      have hP2 := hP.step HO.out (by rw [Hlen.out]; omega)
      have HP := Lib.hid hP; have HS := Lib.hid S; have HP2 := Lib.hid hP2; have Hc := Lib.hid hc; have Hsz := Lib.hid hsz; have Hle := Lib.hid hle; clear hP S hP2 hc hsz hle
      go_wp2_with fail
      refine Hc.out.mono ?_
      rintro e w2 ⟨rfl, S⟩
      have HS := Lib.hid S; clear S
      go_wp2_with fail
      go_roundw
      case rel => exact ⟨a + 20, _, by go_num, by go_num, HP2.out, HS.out⟩
      case measure => simp [intOf]; omega
    · have v1 : decide ((a : Int) + 20 ≤ (N : Int)) = false := decide_eq_false (by omega)
      have v2 : ¬ (a : Int) + 20 ≤ (N : Int) := by omega
      have hc := HI.out dk wr a N S (by rw [hsz]) (by omega) (by omega)
      have hP2 := hP.last HO.out (n := N) Hlen.out.symm (by omega)
      clear HI
      have HP := Lib.hid hP; have HS := Lib.hid S; have HP2 := Lib.hid hP2; have Hc := Lib.hid hc; have Hsz := Lib.hid hsz; have Hle := Lib.hid hle; clear hP S hP2 hc hsz hle
      go_wp2_with fail
      refine Hc.out.mono ?_
      rintro e w2 ⟨rfl, S⟩
      clear v1 v2
      have HS := Lib.hid S; clear S
      go_wp2_with fail
      go_loopw [6] (fun x wr => ∃ (bs : Nat) (dk : Array α), x = .int .i64 bs ∧ 20 ≤ bs ∧ bs ≤ 2 * N + 20 ∧ P2 (ltOf cf) l0 bs dk ∧ SWK (enc f0 f1) 2 w0 blk off dk wr) (fun x _ => N - (intOf x).toNat)
      case atStart => exact ⟨20, _, rfl, Nat.le_refl _, by omega, HP2.out, HS.out⟩
      case round =>
        obtain ⟨bs, dk, rfl, hb1, hb2, hP, S⟩ := hrel
        by_cases hlt2 : bs < N
        · have v2 : (bs : Int) < (N : Int) := by omega
          have w1 : IntKind.i64.wrap (2 * (bs : Int)) = 2 * (bs : Int) := IntWalk.i64_in _ (by omega)
          have w1' : IntKind.i64.wrap ((bs : Int) * 2) = 2 * (bs : Int) := by rw [IntWalk.i64_in _ (by omega)]; omega
          have hP3 := P3.start hP
          have HP := Lib.hid hP; have HS := Lib.hid S; have HP3 := Lib.hid hP3; clear hP S hP3
          go_wp2_with fail
          go_loopw [7, 8] (fun x y wr => ∃ (a : Nat) (dk : Array α), x = .int .i64 a ∧ y = .int .i64 ((a : Int) + 2 * (bs : Int)) ∧ P3 (ltOf cf) l0 bs a dk ∧ SWK (enc f0 f1) 2 w0 blk off dk wr) (fun x _ _ => N + 2 * bs - (intOf x).toNat)
          case atStart => exact ⟨0, dk, rfl, by go_num, HP3.out, HS.out⟩
          case round =>
            obtain ⟨a, dk, rfl, rfl, hP, S⟩ := hrel
            have hsz := hP.size HO.out
            rw [Hlen.out] at hsz
            obtain ⟨hsz, hle⟩ := hsz
            rw [hsz] at hle
            have w2 : IntKind.i64.wrap ((a : Int) + (bs : Int)) = (a : Int) + (bs : Int) := IntWalk.i64_in _ (by omega)
            by_cases hlt3 : a + 2 * bs ≤ N
            · have v3 : decide ((a : Int) + 2 * (bs : Int) ≤ (N : Int)) = true := decide_eq_true (by omega)
              have v4 : (a : Int) + 2 * (bs : Int) ≤ (N : Int) := by omega
              have w3 : IntKind.i64.wrap ((a : Int) + 2 * (bs : Int) + 2 * (bs : Int)) = (a : Int) + 2 * (bs : Int) + 2 * (bs : Int) := IntWalk.i64_in _ (by omega)
              obtain ⟨p, u, v, q, q1, q2, q3, q4, q5, q6, q7⟩ := hP.step HO.out (by rw [Hlen.out]; omega) (by omega)
              have hc := HM.out dk wr p u v q a (a + bs) (a + 2 * bs) S q1 (by rw [hsz, HN.out]) q2 q3 q4 (by omega) (by omega) (by omega) (by omega) (by omega)
              rw [show ((a + bs : Nat) : Int) = (a : Int) + (bs : Int) by omega, show ((a + 2 * bs : Nat) : Int) = (a : Int) + 2 * (bs : Int) by omega] at hc
              clear q1 q2 q3 q4 q5 q6
              have HP := Lib.hid hP; have HS := Lib.hid S; have Hc := Lib.hid hc; have Hsz := Lib.hid hsz; have Hle := Lib.hid hle; have Hq7 := Lib.hid q7; clear hP S hc hsz hle q7
              go_wp2_with fail
              refine Hc.out.mono ?_
              rintro e w2 ⟨rfl, d2, S, hd2⟩
              have hP2 := Hq7.out d2 hd2
              clear hd2
              have HS := Lib.hid S; have HP2 := Lib.hid hP2; clear S hP2
              go_wp2_with fail
              go_roundw
              case rel => exact ⟨a + 2 * bs, _, by go_num, by go_num, HP2.out, HS.out⟩
              case measure => simp [intOf]; omega
            · have v3 : decide ((a : Int) + 2 * (bs : Int) ≤ (N : Int)) = false := decide_eq_false (by omega)
              have v4 : ¬ (a : Int) + 2 * (bs : Int) ≤ (N : Int) := by omega
              by_cases hm : a + bs < N
              · have v5 : (a : Int) + (bs : Int) < (N : Int) := by omega
                obtain ⟨p, u, v, q1, q2, q3, q4, q5, q6, q7⟩ := hP.last1 HO.out (n := N) Hlen.out.symm (by omega) hm
                have hc := HM.out dk wr p u v [] a (a + bs) N S q1 (by rw [hsz, HN.out]) q2 q3 q4 (by omega) (by omega) (by omega) (by omega) (by omega)
                rw [show ((a + bs : Nat) : Int) = (a : Int) + (bs : Int) by omega] at hc
                clear q1 q2 q3 q4 q5 q6
                have HP := Lib.hid hP; have HS := Lib.hid S; have Hc := Lib.hid hc; have Hsz := Lib.hid hsz; have Hle := Lib.hid hle; have Hq7 := Lib.hid q7; clear hP S hc hsz hle q7
                go_wp2_with fail
                refine Hc.out.mono ?_
                rintro e w2 ⟨rfl, d2, S, hd2⟩
                have hP2 := Hq7.out d2 hd2
                clear hd2
                have HS := Lib.hid S; have HP2 := Lib.hid hP2; clear S hP2
                go_wp2_with fail
                go_roundw
                case rel => exact ⟨2 * bs, _, by go_num, by omega, by omega, HP2.out, HS.out⟩
                case measure => simp [intOf]; omega
              · have v5 : ¬ (a : Int) + (bs : Int) < (N : Int) := by omega
                have hP2 := hP.last2 (n := N) Hlen.out.symm (by omega) hm (by omega)
                have HP := Lib.hid hP; have HS := Lib.hid S; have Hsz := Lib.hid hsz; have Hle := Lib.hid hle; have HP2 := Lib.hid hP2; clear hP S hsz hle hP2
                go_wp2_with fail
                go_roundw
                case rel => exact ⟨2 * bs, _, by go_num, by omega, by omega, HP2.out, HS.out⟩
                case measure => simp [intOf]; omega
        · have v2 : ¬ (bs : Int) < (N : Int) := by omega
          have hD := hP.done (by rw [Hlen.out]; omega)
          have HP := Lib.hid hP; have HS := Lib.hid S; have HD := Lib.hid hD; clear hP S hD
          go_wp2_with fail
          go_end0
          exact ⟨rfl, dk, HS.out, HD.out⟩
set_option maxRecDepth 10000 in
set_option maxHeartbeats 1000000 in
theorem sortStable_any (R : RowK (enc f0 f1) 2 w0 blk off d0) (C : CmpLays Try.prog g cb (enc f0 f1) 2 cf blk off d0.size w0) (eg : ∀ args w, (callFunc g args).run Try.prog w = .ok (.enter g args) w) (hO : Swo (ltOf cf)) (cap : Nat) (hn : d0.size ≤ 1000000) :
    Calls Try.prog 95 #[.slice (some ⟨blk, off, none⟩) d0.size cap, .func (.func g) #[] cb] w0 (Now (enc f0 f1) 2 w0 blk off (ssort (ltOf cf) d0.toList)) := by
  have hc := stable_any R C eg hO cap hn
  obtain ⟨l, hl⟩ : ∃ l, l = ssort (ltOf cf) d0.toList := ⟨_, rfl⟩
  rw [← hl] at hc ⊢
  obtain ⟨N, hN⟩ : ∃ N, N = d0.size := ⟨_, rfl⟩
  rw [← hN] at hn hc ⊢
  have Hc := Lib.hid hc; have HN := Lib.hid hN; have Hl := Lib.hid hl; have HC := Lib.hid C; have HR := Lib.hid R; have HO := Lib.hid hO; clear hc hN hl C R hO
  go_enter Try.func95, Try.ntmps95
  go_wp2_with fail
  refine Hc.out.mono ?_
  rintro e w2 ⟨rfl, hw2⟩
  have Hw2 := Lib.hid hw2; clear hw2
  go_wp2_with fail
  go_end0
  exact ⟨rfl, Hw2.out⟩
end StbSet
end Go.Proofs.Ytnelgellbabkoaa
