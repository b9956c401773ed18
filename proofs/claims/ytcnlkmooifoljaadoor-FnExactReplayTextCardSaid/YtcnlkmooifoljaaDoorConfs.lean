import Derived.Test.YtcnlkmooifoljaaDoorRacks
/- Arrays of ints are compared; a pour moves at most four layers. -/
namespace Go.Proofs.YtcnlkmooifoljaaDoor.AM
open Go
set_option maxRecDepth 1000000
set_option linter.unusedSimpArgs false
set_option linter.unusedVariables false
theorem conf_ints : ∀ (n : Nat) (x : List Int), x.length = n → conf (List.replicate n (.int .i64)) (x.map (C.int .i64)) = true
  | 0, [], _ => rfl
  | n + 1, a :: x, h => by
    have := conf_ints n x (by simpa using h)
    simp only [List.replicate_succ, List.map_cons, conf, conf1, this]
    rfl
  | 0, _ :: _, h => by simp at h
  | _ + 1, [], h => by simp at h
theorem conf24 (x : List Int) (h : x.length = 24) : conf [CK.int .i64, CK.int .i64, CK.int .i64, CK.int .i64, CK.int .i64, CK.int .i64, CK.int .i64, CK.int .i64, CK.int .i64, CK.int .i64, CK.int .i64, CK.int .i64, CK.int .i64, CK.int .i64, CK.int .i64, CK.int .i64, CK.int .i64, CK.int .i64, CK.int .i64, CK.int .i64, CK.int .i64, CK.int .i64, CK.int .i64, CK.int .i64] (x.map (C.int .i64)) = true := conf_ints 24 x h
theorem ints_inj (x y : List Int) : (x.map (C.int .i64) = y.map (C.int .i64)) = (x = y) := by
  apply propext
  constructor
  · intro h
    induction x generalizing y with
    | nil => cases y with
      | nil => rfl
      | cons b y => simp at h
    | cons a x ih => cases y with
      | nil => simp at h
      | cons b y =>
        simp only [List.map_cons, List.cons.injEq, C.int.injEq, true_and] at h
        rw [h.1, ih y h.2]
  · intro h; rw [h]
theorem pourN_le4 (r : List Int) (i j : Nat) : pourN r i j ≤ 4 := by unfold pourN; omega
end Go.Proofs.YtcnlkmooifoljaaDoor.AM
