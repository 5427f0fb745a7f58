/- Closed facts of the program that every row asks. The head of the translation is one long string: its signs are laid by number, so that nothing has to decode it; only its first three words matter. -/
import Derived.Test.YtcnlgoghnlcndaaRows
import Derived.JoinedOf
import Derived.KernelRfl
namespace Go.Proofs.Ytcnlgoghnlcndaa
def hd1 : List Char := List.map Char.ofNat [104, 97, 114, 110, 101, 115, 115]
def hd2 : List Char := List.map Char.ofNat [50, 49, 53, 57, 52, 50, 100, 49, 48, 55, 101, 55, 97, 55, 55, 101, 50, 56, 97, 102, 55, 98, 101, 100, 56, 102, 51, 52, 57, 57, 98, 99, 53, 49, 55, 99, 55, 97, 97, 51, 55, 52, 53, 102, 48, 53, 97, 102, 50, 51, 56, 100, 97, 49, 97, 50, 48, 55, 56, 102, 48, 98, 100, 53]
def hd3 : List Char := List.map Char.ofNat [99, 117, 116]
def hdRest : List Char := List.map Char.ofNat [97, 116, 32, 108, 111, 111, 112, 46, 101, 120, 97, 109, 112, 108, 101, 47, 115, 104, 111, 114, 116, 115, 112, 101, 99, 116, 114, 97, 47, 108, 97, 119, 115, 46, 70, 110, 69, 120, 97, 99, 116, 82, 105, 110, 103, 115, 70, 111, 114, 32, 108, 111, 111, 112, 46, 101, 120, 97, 109, 112, 108, 101, 47, 115, 104, 111, 114, 116, 115, 112, 101, 99, 116, 114, 97, 47, 108, 97, 119, 115, 46, 70, 110, 82, 105, 110, 103, 115, 70, 111, 114, 32, 108, 111, 111, 112, 46, 101, 120, 97, 109, 112, 108, 101, 47, 115, 104, 111, 114, 116, 115, 112, 101, 99, 116, 114, 97, 47, 108, 97, 119, 115, 46, 70, 110, 69, 120, 97, 99, 116, 87, 105, 110, 100, 111, 119, 79, 102, 32, 108, 111, 111, 112, 46, 101, 120, 97, 109, 112, 108, 101, 47, 115, 104, 111, 114, 116, 115, 112, 101, 99, 116, 114, 97, 47, 108, 97, 119, 115, 46, 70, 110, 83, 117, 98, 110, 111, 114, 109, 97, 108, 32, 108, 111, 111, 112, 46, 101, 120, 97, 109, 112, 108, 101, 47, 115, 104, 111, 114, 116, 115, 112, 101, 99, 116, 114, 97, 47, 108, 97, 119, 115, 46, 70, 110, 84, 97, 112, 115, 79, 107, 32, 108, 111, 111, 112, 46, 101, 120, 97, 109, 112, 108, 101, 47, 115, 104, 111, 114, 116, 115, 112, 101, 99, 116, 114, 97, 47, 108, 97, 119, 115, 46, 70, 110, 87, 105, 110, 100, 111, 119, 79, 102, 32, 108, 111, 111, 112, 46, 101, 120, 97, 109, 112, 108, 101, 47, 115, 104, 111, 114, 116, 115, 112, 101, 99, 116, 114, 97, 47, 108, 97, 119, 115, 46, 70, 110, 70, 108, 117, 115, 104, 101, 100, 32, 108, 111, 111, 112, 46, 101, 120, 97, 109, 112, 108, 101, 47, 115, 104, 111, 114, 116, 115, 112, 101, 99, 116, 114, 97, 47, 108, 97, 119, 115, 46, 70, 110, 87, 105, 116, 104, 78, 111, 117, 103, 104, 116, 115, 32, 108, 111, 111, 112, 46, 101, 120, 97, 109, 112, 108, 101, 47, 115, 104, 111, 114, 116, 115, 112, 101, 99, 116, 114, 97, 47, 108, 97, 119, 115, 46, 70, 110, 80, 105, 101, 99, 101, 79, 102, 32, 108, 111, 111, 112, 46, 101, 120, 97, 109, 112, 108, 101, 47, 115, 104, 111, 114, 116, 115, 112, 101, 99, 116, 114, 97, 47, 108, 97, 119, 115, 46, 70, 110, 71, 114, 101, 97, 116, 101, 115, 116, 79, 102, 32, 108, 111, 111, 112, 46, 101, 120, 97, 109, 112, 108, 101, 47, 115, 104, 111, 114, 116, 115, 112, 101, 99, 116, 114, 97, 47, 108, 97, 119, 115, 46, 70, 110, 87, 105, 110, 100, 111, 119, 101, 100, 32, 108, 111, 111, 112, 46, 101, 120, 97, 109, 112, 108, 101, 47, 115, 104, 111, 114, 116, 115, 112, 101, 99, 116, 114, 97, 47, 108, 97, 119, 115, 46, 70, 110, 80, 111, 119, 101, 114, 115, 79, 102, 32, 108, 111, 111, 112, 46, 101, 120, 97, 109, 112, 108, 101, 47, 115, 104, 111, 114, 116, 115, 112, 101, 99, 116, 114, 97, 47, 108, 97, 119, 115, 46, 70, 110, 70, 114, 111, 109, 80, 97, 105, 114, 115, 32, 108, 111, 111, 112, 46, 101, 120, 97, 109, 112, 108, 101, 47, 115, 104, 111, 114, 116, 115, 112, 101, 99, 116, 114, 97, 47, 108, 97, 119, 115, 46, 70, 110, 83, 104, 97, 114, 101, 79, 102, 32, 108, 111, 111, 112, 46, 101, 120, 97, 109, 112, 108, 101, 47, 115, 104, 111, 114, 116, 115, 112, 101, 99, 116, 114, 97, 47, 108, 97, 119, 115, 46, 70, 110, 84, 111, 103, 101, 116, 104, 101, 114, 32, 108, 111, 111, 112, 46, 101, 120, 97, 109, 112, 108, 101, 47, 115, 104, 111, 114, 116, 115, 112, 101, 99, 116, 114, 97, 47, 108, 97, 119, 115, 46, 70, 110, 70, 97, 115, 116, 79, 102, 32, 108, 111, 111, 112, 46, 101, 120, 97, 109, 112, 108, 101, 47, 115, 104, 111, 114, 116, 115, 112, 101, 99, 116, 114, 97, 47, 108, 97, 119, 115, 46, 70, 110, 80, 105, 101, 99, 101, 115, 79, 102]
/-- The signs of the head, by number. -/
def headSigns : List Char := hd1 ++ Char.ofNat 32 :: (hd2 ++ Char.ofNat 32 :: (hd3 ++ Char.ofNat 32 :: hdRest))
theorem head_eq : Try.prog.initOrder = String.ofList headSigns := by kernel_rfl
theorem head_list : Try.prog.initOrder.toList = headSigns := by rw [head_eq]; exact String.toList_ofList

theorem ws_space (r : List Char) : wordsSigns (Char.ofNat 32 :: r) = [] :: wordsSigns r := rfl
theorem ws_other (c : Char) (r : List Char) (h : c ≠ Char.ofNat 32) : wordsSigns (c :: r) = (match wordsSigns r with | w :: ws => (c :: w) :: ws | [] => [[c]]) := by
  conv => lhs; unfold wordsSigns
  split
  · rename_i heq; cases heq
  · rename_i heq; injection heq with h1 h2; exact absurd h1 h
  · rename_i heq; injection heq with h1 h2; subst h1; subst h2; rfl
theorem ws_word (w r : List Char) (h : ∀ c ∈ w, c ≠ Char.ofNat 32) : wordsSigns (w ++ Char.ofNat 32 :: r) = w :: wordsSigns r := by
  induction w with
  | nil => exact ws_space r
  | cons c w ih =>
    have e := ih (fun x hx => h x (List.mem_cons_of_mem _ hx))
    rw [List.cons_append, ws_other _ _ (h c (List.mem_cons_self ..)), e]
theorem no_space {l : List Char} (h : l.all (fun c => !(c == Char.ofNat 32)) = true) : ∀ c ∈ l, c ≠ Char.ofNat 32 := by
  intro c hc e
  have := List.all_eq_true.1 h c hc
  rw [e] at this
  simp at this
theorem head_words : wordsSigns Try.prog.initOrder.toList = hd1 :: hd2 :: hd3 :: wordsSigns hdRest := by
  rw [head_list]
  unfold headSigns
  rw [ws_word hd1 _ (no_space (by decide +kernel)), ws_word hd2 _ (no_space (by decide +kernel)), ws_word hd3 _ (no_space (by decide +kernel))]
theorem behind (R : List (List Char)) : behindMainWord (hd1 :: hd2 :: hd3 :: R) = hd3 :: R := by
  unfold behindMainWord
  have h : ((hd1 == "harness".toList || hd1 == "ownmain".toList) && isSumSigns hd2) = true := by decide +kernel
  simp only [h, if_true]
theorem strip (R : List (List Char)) : stripLifts liftWords (hd3 :: R) = ([], hd3 :: R) := by
  have h : liftWords.all (fun o => !(hd3 == o.toList)) = true := by decide +kernel
  generalize liftWords = l at h
  induction l with
  | nil => rfl
  | cons o os ih =>
    simp only [List.all_cons, Bool.and_eq_true, Bool.not_eq_true'] at h
    simp only [stripLifts, h.1, Bool.false_eq_true, if_false]
    exact ih h.2
theorem fb_lays : Try.prog.laysLater = false := by kernel_rfl
theorem fb_reflect : Try.prog.bearsReflect = false := by kernel_rfl
theorem fb_door : Try.prog.doorFits [] = true := by kernel_rfl
theorem mayEnter_of (P : Program) (R : List (List Char)) (hw : wordsSigns P.initOrder.toList = hd1 :: hd2 :: hd3 :: R) (h4 : P.laysLater = false) (h5 : P.bearsReflect = false) (h6 : P.doorFits [] = true) : P.mayEnter = true := by
  unfold Program.mayEnter
  rw [hw, behind]
  have h1 : (hd3 == "gc".toList || hd3 == "spec".toList) = false := by decide +kernel
  have h2 : (hd3 == "carried".toList) = false := by decide +kernel
  have h3 : ((some hd3 : Option (List Char)) == some "cut".toList) = true := by decide +kernel
  simp only [strip, h1, h2, h3, h4, h5, h6, List.head?_cons, List.contains_nil]
  rfl
theorem lifts_of (P : Program) (R : List (List Char)) (hw : wordsSigns P.initOrder.toList = hd1 :: hd2 :: hd3 :: R) : P.headLifts = [] := by
  unfold Program.headLifts
  rw [hw, behind]
  simp only [strip]
  split <;> rfl
theorem make_of (P : Program) (R : List (List Char)) (hw : wordsSigns P.initOrder.toList = hd1 :: hd2 :: hd3 :: R) : P.make = some .cut := by
  unfold Program.make
  rw [hw, behind]
  have h1 : (hd3 == "gc".toList || hd3 == "spec".toList) = false := by decide +kernel
  have h2 : (hd3 == "cut".toList) = true := by decide +kernel
  simp only [h1, h2, Bool.true_or, if_true, Bool.false_eq_true, if_false]
theorem final_of (P : Program) (R : List (List Char)) (hw : wordsSigns P.initOrder.toList = hd1 :: hd2 :: hd3 :: R) : P.liftsFinal = false := by
  unfold Program.liftsFinal
  rw [hw, behind, lifts_of P R hw]
  have h1 : ((some hd3 : Option (List Char)) == some "carried".toList) = false := by decide +kernel
  simp only [List.head?_cons, h1, Bool.false_and, Bool.false_or, List.contains_nil]
theorem fb_mayEnter : Try.prog.mayEnter = true := mayEnter_of _ _ head_words fb_lays fb_reflect fb_door
theorem fa_laidOut : laidOutB Try.prog = true := by kernel_rfl
theorem fa_mapsRowed : mapsRowed Try.prog = true := by kernel_rfl
theorem fa_stops : (Try.prog.stops == []) = true := by kernel_rfl
theorem fa_knobs : (Try.prog.stopKnobs == []) = true := by kernel_rfl
theorem fa_plainKeys : (Rows.fnFlushedRow.plainKeys == Try.prog.plainKeys) = true := by kernel_rfl
theorem fa_heard : Try.prog.stopsHeard = true := by kernel_rfl
theorem make_eq : Try.prog.make = some .cut := make_of _ _ head_words
theorem final_eq : Try.prog.liftsFinal = false := final_of _ _ head_words
theorem fa_make : (Try.prog.make == some Rows.fnFlushedRow.make) = true := by rw [make_eq]; decide +kernel
theorem fa_lifts : (Rows.fnFlushedRow.lifted == Try.prog.liftsFinal) = true := by rw [final_eq]; decide +kernel
end Go.Proofs.Ytcnlgoghnlcndaa
