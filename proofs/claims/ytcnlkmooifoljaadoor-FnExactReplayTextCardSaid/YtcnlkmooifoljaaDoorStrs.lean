import Derived.Test.YtcnlkmooifoljaaDoorAmE
/- Cells that hold texts. -/
namespace Go.Proofs.YtcnlkmooifoljaaDoor.AM
open Go
set_option maxRecDepth 1000000
set_option linter.unusedSimpArgs false
def strs (O : List (List UInt8)) : List C := O.map C.str
@[simp] theorem strs_len (O : List (List UInt8)) : (strs O).length = O.length := by simp [strs]
@[simp] theorem strs_ids (O : List (List UInt8)) : cids (strs O) = [] := by
  induction O with
  | nil => rfl
  | cons x O ih => simp only [strs, List.map_cons, cids] at ih ⊢; rw [ih]; rfl
@[simp] theorem strs_cmp (g : Nat → Nat) (O : List (List UInt8)) : cmp g (strs O) = strs O := cmp_pure (strs_ids O)
@[simp] theorem strs_dead (O : List (List UInt8)) : noDead (strs O) = true := by
  induction O with
  | nil => rfl
  | cons x O ih => simp only [strs, List.map_cons, noDead] at ih ⊢; exact ih
theorem strs_app (A B : List (List UInt8)) : strs (A ++ B) = strs A ++ strs B := by simp [strs]
theorem strs_get {P : List (List UInt8)} {k : Nat} (hk : k < P.length) : ((strs P).drop k).take 1 = [C.str (P.getD k [])] := by
  unfold strs
  rw [List.drop_eq_getElem_cons (by simpa using hk)]
  simp [List.getD_eq_getElem?_getD, List.getElem?_eq_getElem hk]
theorem strs_take (O : List (List UInt8)) : (strs O).take O.length = strs O := List.take_of_length_le (by simp)
theorem strs_isStr (O : List (List UInt8)) : (strs O).all isStrC = true := by
  unfold strs
  rw [List.all_map]
  exact List.all_eq_true.2 fun _ _ => rfl
theorem strs_strC (O : List (List UInt8)) : (strs O).map strC = O := by
  unfold strs
  rw [List.map_map]
  conv => rhs; rw [← List.map_id O]
  rfl
end Go.Proofs.YtcnlkmooifoljaaDoor.AM
