import Derived.Test.YtenheijeahpbkaaAmCode
import Derived.Test.YtenheijeahpbkaaAmSimp
import Derived.Test.YtenheijeahpbkaaAmLaw
import Derived.Test.YtenheijeahpbkaaRows
namespace Go.Proofs.Ytenheijeahpbkaa
open Go Go.ChangeShapes Go.WideShapes Go.RowKit Go.WideElems
set_option maxRecDepth 100000
theorem Try.own : ownKnob Try.prog.godebug = none := by kernel_rfl
theorem AM.primOK : AM.PrimOK Try.prog AM.np := fun f q h => by cases h
theorem AM.fnOK : AM.FnOK Try.prog (AM.fnI AM.pr AM.np) := AM.fnI_ok AM.mixed AM.pr_ok AM.primOK
theorem Try.laid : laidOutB Try.prog = true := by kernel_rfl
theorem AM.bar_split {l : List Int} (hl : l.length = 26) : ∃ r m n, l = r ++ [m, n] ∧ r.length = 24 := by
  refine ⟨l.take 24, l.getD 24 0, l.getD 25 0, ?_, by simp; omega⟩
  have h1 : l.drop 24 = [l.getD 24 0, l.getD 25 0] := by
    rw [List.drop_eq_getElem_cons (by omega), List.drop_eq_getElem_cons (by omega), List.drop_of_length_le (by omega)]
    simp [List.getD_eq_getElem?_getD, List.getElem?_eq_getElem (show 24 < l.length by omega), List.getElem?_eq_getElem (show 25 < l.length by omega)]
  rw [← h1, List.take_append_drop]
end Go.Proofs.Ytenheijeahpbkaa
