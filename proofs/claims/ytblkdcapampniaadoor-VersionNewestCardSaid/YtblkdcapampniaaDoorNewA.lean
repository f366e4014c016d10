/- The walk of version.Newest: the texts, sorted stably by how they stand as versions. Condition: the library's variables as they were laid; at most a thousand texts of at most 9000 bytes. -/
import Derived.Test.YtblkdcapampniaaDoorStbStrT
import Derived.Test.YtblkdcapampniaaDoorVerM
set_option linter.unusedVariables false
set_option linter.unusedSimpArgs false
namespace Go.Proofs.YtblkdcapampniaaDoor
open Go.Shelf Go.RowKit Go.Lib Go.Sort SortM VerN

/-- a text with its bound -/
abbrev Tx := { s : ByteArray // s.size ≤ 9000 }
instance : Inhabited Tx := ⟨⟨⟨#[]⟩, by decide⟩⟩
def newCf (x y : Tx) : Int := compareL y.1.data.toList x.1.data.toList
theorem newSwo : Swo (Go.Proofs.ltOf newCf) where
  asymm a b h := by
    unfold Go.Proofs.ltOf newCf at *
    have := row_compare.neg b.1.data.toList a.1.data.toList
    have h1 := of_decide_eq_true h
    exact decide_eq_false (by omega)
  ntrans a b c h1 h2 := by
    unfold Go.Proofs.ltOf newCf at *
    have h1 := of_decide_eq_false h1
    have h2 := of_decide_eq_false h2
    have n1 := row_compare.neg a.1.data.toList b.1.data.toList
    have n2 := row_compare.neg b.1.data.toList c.1.data.toList
    have n3 := row_compare.neg a.1.data.toList c.1.data.toList
    have h3 := row_compare.trans c.1.data.toList b.1.data.toList a.1.data.toList (by omega) (by omega)
    exact decide_eq_false (by omega)
def newest (l : List Tx) : List Tx := ssort (Go.Proofs.ltOf newCf) l
set_option maxRecDepth 10000 in
theorem newClo_any (a b : ByteArray) (ha : a.size ≤ 1000000) (hb : b.size ≤ 1000000) {w : World} (hD : Doors w) : Calls Tryd.prog 57 #[.string a, .string b] w fun e w' => e = .returned (.int .i64 (compareL b.data.toList a.data.toList)) ∧ Below w.heap.size w w' := by
  have hP := verCompare_any b a hb ha hD
  have HP := Lib.hid hP; have HD := Lib.hid hD; clear hP hD
  go_enter Tryd.func57, Tryd.ntmps57
  go_wp2_with fail
  refine HP.out.mono ?_
  rintro e w1 ⟨rfl, hb1⟩
  have Hb1 := Lib.hid hb1; clear hb1
  go_wp2_with fail
  go_ret
  exact ⟨rfl, Hb1.out⟩
theorem enters_new : ∀ args w, (callFunc 57 args).run Tryd.prog w = .ok (.enter 57 args) w := enters_of Tryd.func57 (by kernel_rfl) rfl
theorem flat_one (l : List Tx) : l.flatMap (StbStr.enc fun x : Tx => x.1) = l.map fun x => Value.string x.1 := by
  induction l with
  | nil => rfl
  | cons x l ih => rw [List.flatMap_cons, ih]; rfl
/-- the sort at a row that the call owns -/
theorem sortNew_any {w w0 : World} {g cap : Nat} {l : List Tx} (h : w.ownsRow w0.heap.size 9 1 (.slice (some ⟨g, 0, none⟩) l.length cap) l.length (l.map fun x => Value.string x.1)) (hb : Below w0.heap.size w0 w) (hD : Doors w0) (hl : l.length ≤ 1000) :
    Calls Tryd.prog 56 #[.slice (some ⟨g, 0, none⟩) l.length cap, .func (.func 57) #[] #[]] w fun e w' => e = .returned (.tuple #[]) ∧ w'.ownsRow w0.heap.size 9 1 (.slice (some ⟨g, 0, none⟩) l.length cap) l.length ((newest l).map fun x => Value.string x.1) ∧ Below w0.heap.size w0 w' := by
  rw [← flat_one] at h
  have hR := SortR.srw_of_owns StbStr.enc_len h rfl
  have hlow : w0.heap.size ≤ g := (h.lt g rfl).1
  have hC : StbStr.CmpLays Tryd.prog 57 #[] (StbStr.enc fun x : Tx => x.1) 1 newCf g 0 l.toArray.size w := fun W hW x y =>
    newClo_any x.1 y.1 (by have := x.2; omega) (by have := y.2; omega) (hD.below (hb.trans (hW.below hb.size (fun k e => by rw [e]; exact hlow))))
  have hs := StbStr.sortStable_any hR hC enters_new newSwo cap (by simpa using Nat.le_trans hl (by decide))
  have e : l.toArray.size = l.length := by simp
  rw [e] at hs
  refine hs.mono ?_
  rintro e w' ⟨rfl, d, S, hd⟩
  have hsz : d.size = l.length := by rw [← Array.length_toList, hd, ssort_len newSwo]
  have h2 := SortR.owns_of_srw StbStr.enc_len (by decide) h S hsz
  rw [hd, flat_one] at h2
  exact ⟨rfl, h2.1, h2.2 _ hb hb.size⟩
end Go.Proofs.YtblkdcapampniaaDoor
