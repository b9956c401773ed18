/- What the rows of this seat share. -/
import Derived.Test.YtafphbegpjjolaaAmCode
import Derived.Test.YtafphbegpjjolaaAmE
import Derived.Test.YtafphbegpjjolaaRows
namespace Go.Proofs.Ytafphbegpjjolaa
open Go Go.ChangeShapes Go.WideShapes Go.RowKit Go.WideElems
set_option maxRecDepth 100000
theorem Try.own : ownKnob Try.prog.godebug = none := by kernel_rfl
theorem AM.primOK : AM.PrimOK Try.prog AM.np := fun f q h => by cases h
theorem AM.fnOK : AM.FnOK Try.prog (AM.fnI AM.pr AM.np) := AM.fnI_ok AM.mixed AM.pr_ok AM.primOK
theorem Try.laid : laidOutB Try.prog = true := by kernel_rfl
theorem Try.rowed : mapsRowed Try.prog = true := by kernel_rfl
def spC : Char := Char.ofNat 32
def joinW : List (List Char) → List Char
  | [] => []
  | [w] => w
  | w :: v :: ws => w ++ spC :: joinW (v :: ws)
theorem words_one : ∀ (w : List Char), (w.all fun c => c != spC) = true → wordsSigns w = [w]
  | [], _ => rfl
  | c :: w, h => by
    simp only [List.all_cons, Bool.and_eq_true, bne_iff_ne] at h
    have ih := words_one w (by simpa using h.2)
    have hc : c ≠ Char.ofNat 32 := h.1
    unfold wordsSigns
    split
    · rename_i e; cases e
    · rename_i e; injection e with e1 e2; exact absurd e1 hc
    · rename_i c' r' _ e
      injection e with e1 e2
      subst e1; subst e2
      rw [ih]
theorem words_cons : ∀ (w r : List Char), (w.all fun c => c != spC) = true → wordsSigns (w ++ spC :: r) = w :: wordsSigns r
  | [], r, _ => rfl
  | c :: w, r, h => by
    simp only [List.all_cons, Bool.and_eq_true, bne_iff_ne] at h
    have ih := words_cons w r (by simpa using h.2)
    have hc : c ≠ Char.ofNat 32 := h.1
    rw [List.cons_append]
    conv => lhs; unfold wordsSigns
    split
    · rename_i e; cases e
    · rename_i e; injection e with e1 e2; exact absurd e1 hc
    · rename_i c' r' _ e
      injection e with e1 e2
      subst e1; subst e2
      rw [ih]
theorem words_join : ∀ (ws : List (List Char)), ws ≠ [] → (ws.all fun w => w.all fun c => c != spC) = true → wordsSigns (joinW ws) = ws
  | [], h, _ => absurd rfl h
  | [w], _, h => by
    simp only [List.all_cons, List.all_nil, Bool.and_true] at h
    exact words_one w h
  | w :: v :: ws, _, h => by
    rw [List.all_cons, Bool.and_eq_true] at h
    rw [joinW, words_cons w _ h.1, words_join (v :: ws) (by simp) h.2]
def ioHead : List (List Char) := [[104, 97, 114, 110, 101, 115, 115], [55, 49, 101, 99, 57, 55, 56, 55, 52, 54, 51, 97, 54, 98, 99, 57, 50, 98, 48, 51, 102, 50, 52, 56, 97, 97, 51, 52, 50, 57, 101, 51, 102, 50, 51, 51, 48, 50, 99, 50, 54, 49, 57, 53, 48, 99, 52, 98, 97, 50, 102, 99, 52, 98, 52, 56, 102, 54, 57, 97, 55, 98, 99, 53]].map (·.map Char.ofNat)
def ioWords : List (List Char) := [[99, 117, 116], [97, 116], [108, 111, 111, 112, 46, 101, 120, 97, 109, 112, 108, 101, 47, 103, 48, 49, 50, 49, 53, 47, 108, 97, 119, 115, 46, 70, 110, 80, 108, 97, 121, 115], [108, 111, 111, 112, 46, 101, 120, 97, 109, 112, 108, 101, 47, 103, 48, 49, 50, 49, 53, 47, 108, 97, 119, 115, 46, 70, 110, 69, 120, 97, 99, 116, 67, 111, 117, 110, 116, 69, 110, 100, 115]].map (·.map Char.ofNat)
theorem io_str : Try.prog.initOrder = String.ofList (joinW (ioHead ++ ioWords)) := by kernel_rfl
theorem io_clean : ((ioHead ++ ioWords).all fun w => w.all fun c => c != spC) = true := by kernel_rfl
theorem io_list : wordsSigns Try.prog.initOrder.toList = ioHead ++ ioWords := by
  rw [io_str, String.toList_ofList]
  exact words_join _ (by simp [ioWords]) io_clean
theorem io_words : behindMainWord (wordsSigns Try.prog.initOrder.toList) = ioWords := by
  rw [io_list]
  kernel_rfl
def ioRest : List (List Char) := ioWords.drop 1
def cutW : List Char := [99, 117, 116].map Char.ofNat
theorem io_split : ioWords = cutW :: ioRest := by kernel_rfl
theorem lifts_io : stripLifts liftWords (cutW :: ioRest) = ([], cutW :: ioRest) := by kernel_rfl
theorem Try.later : Try.prog.laysLater = false := by kernel_rfl
theorem Try.reflect : Try.prog.bearsReflect = false := by kernel_rfl
theorem Try.door : Try.prog.doorFits [] = true := by kernel_rfl
theorem cutW_eq : cutW = "cut".toList := by kernel_rfl
theorem make_of {P : Program} {r : List (List Char)} (h : behindMainWord (wordsSigns P.initOrder.toList) = "cut".toList :: r) : P.make = some Make.cut := by
  unfold Program.make
  rw [h]
  rfl
theorem enter_of {P : Program} {r : List (List Char)} (h : behindMainWord (wordsSigns P.initOrder.toList) = "cut".toList :: r) (h2 : stripLifts liftWords ("cut".toList :: r) = ([], "cut".toList :: r)) (h3 : P.laysLater = false) (h4 : P.bearsReflect = false) (h5 : P.doorFits [] = true) : P.mayEnter = true := by
  unfold Program.mayEnter
  rw [h]
  simp only
  rw [h2, h3, h4, h5]
  rfl
theorem heads_of {P : Program} {r : List (List Char)} (h : behindMainWord (wordsSigns P.initOrder.toList) = "cut".toList :: r) (h2 : stripLifts liftWords ("cut".toList :: r) = ([], "cut".toList :: r)) : P.headLifts = [] := by
  unfold Program.headLifts
  rw [h, h2]
  exact ite_self _
theorem lifts_of {P : Program} {r : List (List Char)} (h : behindMainWord (wordsSigns P.initOrder.toList) = "cut".toList :: r) (h2 : P.headLifts = []) : P.liftsFinal = false := by
  unfold Program.liftsFinal
  rw [h2, h]
  rfl
theorem io_cut : behindMainWord (wordsSigns Try.prog.initOrder.toList) = "cut".toList :: ioRest := by rw [io_words, io_split, cutW_eq]
theorem strip_cut : stripLifts liftWords ("cut".toList :: ioRest) = ([], "cut".toList :: ioRest) := by rw [← cutW_eq]; exact lifts_io
theorem Try.enter : Try.prog.mayEnter = true := enter_of io_cut strip_cut Try.later Try.reflect Try.door
theorem Try.made : Try.prog.make = some Make.cut := make_of io_cut
theorem Try.lifts : Try.prog.liftsFinal = false := lifts_of io_cut (heads_of io_cut strip_cut)
theorem Try.heard : Try.prog.stopsHeard = true := by kernel_rfl
theorem Try.nostops : ((Try.prog.stops == []) && (Try.prog.stopKnobs == [])) = true := by kernel_rfl
end Go.Proofs.Ytafphbegpjjolaa
