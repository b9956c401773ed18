import Derived.Test.YtafphbegpjjolaaMapC
/- Racks as keys of a map. -/
namespace Go.Proofs.Ytafphbegpjjolaa.AM
open Go
set_option maxRecDepth 100000
set_option linter.unusedSimpArgs false
set_option linter.unusedVariables false
theorem mapM_ex {α β : Type} {f : α → Option β} : ∀ (l : List α), (∀ x ∈ l, ∃ y, f x = some y) → ∃ r, l.mapM f = some r
  | [], _ => ⟨[], rfl⟩
  | a :: l, h => by
    obtain ⟨y, hy⟩ := h a (by simp)
    obtain ⟨r, hr⟩ := mapM_ex l fun x hx => h x (by simp [hx])
    exact ⟨y :: r, by simp [List.mapM_cons, hy, hr]⟩
theorem x_map : Try.prog.underlying xTm = some (.map xKey xBool) := by kernel_rfl
theorem x_key : ∃ f : Field, Try.prog.underlying xKey = some (.struct #[f]) ∧ (f.name != "_") = true ∧ f.type = xSix ∧ f.offset = 0 := by
  have h : (match Try.prog.underlying xKey with | some (.struct fs) => (match fs.toList with | [f] => (f.name != "_") && f.type == xSix && f.offset == 0 | _ => false) | _ => false) = true := by kernel_rfl
  split at h
  · rename_i fs hu
    split at h
    · rename_i f hf
      simp only [Bool.and_eq_true, beq_iff_eq] at h
      refine ⟨f, ?_, h.1.1, h.1.2, h.2⟩
      rw [hu]
      congr 2
      apply Array.ext'
      exact hf
    · cases h
  · cases h
theorem x_six : Try.prog.underlying xSix = some (.array 6 xFour) := by kernel_rfl
theorem x_four : Try.prog.underlying xFour = some (.array 4 xInt) := by kernel_rfl
theorem x_int : Try.prog.underlying xInt = some (.int .i64) := by kernel_rfl
theorem x_sizes : Try.prog.cellsOf xKey = 24 ∧ Try.prog.cellsOf xSix = 24 ∧ Try.prog.cellsOf xFour = 4 ∧ Try.prog.cellsOf xInt = 1 := ⟨by kernel_rfl, by kernel_rfl, by kernel_rfl, by kernel_rfl⟩
theorem x_law : WideMaps.KeyLaw Try.prog xKey := by
  refine deep_law_gate (by kernel_rfl) ?_ ?_ (by kernel_rfl) (by kernel_rfl)
  · exact of_decide_eq_true (by kernel_rfl)
  · exact of_decide_eq_true (by kernel_rfl)
theorem keyLits_rack {r : List Int} (hr : r.length = 24) (hv : ∀ x ∈ r, (Lit.int .i64 x).wf = true) (D : Nat) : ∃ ls, Try.prog.keyLits (D + 4) xKey (r.map (Value.int .i64)) = some ls := by
  obtain ⟨f, hk, hn, ht, ho⟩ := x_key
  obtain ⟨s1, s2, s3, s4⟩ := x_sizes
  have one : ∀ (cs : List Value) (j : Nat), (∃ x : Int, cs[j]? = some (.int .i64 x) ∧ (Lit.int .i64 x).wf = true) → ∃ y, Try.prog.keyLits (D + 1) xInt ((cs.drop (j * 1)).take 1) = some y := by
    rintro cs j ⟨x, hx, hw⟩
    obtain ⟨hj, hx⟩ := List.getElem?_eq_some_iff.1 hx
    rw [Nat.mul_one, List.drop_eq_getElem_cons hj, hx]
    simp [Program.keyLits, x_int, hw]
  have get : ∀ j, j < 24 → ∃ x : Int, (r.map (Value.int .i64))[j]? = some (.int .i64 x) ∧ (Lit.int .i64 x).wf = true := by
    intro j hj
    refine ⟨r[j]'(by omega), ?_, hv _ (List.getElem_mem _)⟩
    rw [List.getElem?_map, List.getElem?_eq_getElem (by omega)]
    rfl
  have four : ∀ i, i < 6 → ∃ y, Try.prog.keyLits (D + 2) xFour (((r.map (Value.int .i64)).drop (i * 4)).take 4) = some y := by
    intro i hi
    have hl : ((((r.map (Value.int .i64)).drop (i * 4)).take 4)).length = 4 := by simp; omega
    obtain ⟨ys, hys⟩ := mapM_ex (f := fun j => Try.prog.keyLits (D + 1) xInt ((((r.map (Value.int .i64)).drop (i * 4)).take 4).drop (j * 1) |>.take 1)) (List.range 4) fun j hj => by
      have hj := List.mem_range.1 hj
      refine one _ j ?_
      obtain ⟨x, hx, hw⟩ := get (i * 4 + j) (by omega)
      refine ⟨x, ?_, hw⟩
      rw [List.getElem?_take, if_pos hj, List.getElem?_drop]
      exact hx
    refine ⟨ys.flatten, ?_⟩
    unfold Program.keyLits
    simp only [x_four, s3, s4, hl, if_true]
    rw [hys]
    rfl
  have six : ∃ y, Try.prog.keyLits (D + 3) xSix (r.map (Value.int .i64)) = some y := by
    obtain ⟨ys, hys⟩ := mapM_ex (f := fun i => Try.prog.keyLits (D + 2) xFour (((r.map (Value.int .i64)).drop (i * 4)).take 4)) (List.range 6) fun i hi => four i (List.mem_range.1 hi)
    refine ⟨ys.flatten, ?_⟩
    unfold Program.keyLits
    simp only [x_six, s2, s3, List.length_map, hr, if_true]
    rw [hys]
    rfl
  obtain ⟨y, hy⟩ := six
  refine ⟨[y].flatten, ?_⟩
  unfold Program.keyLits
  have ht2 : ((r.map (Value.int .i64)).drop 0).take 24 = r.map (Value.int .i64) := by rw [List.drop_zero, List.take_of_length_le (by simp; omega)]
  have hall : (#[f] : Array Field).all (fun x => x.name != "_") = true := by simp [hn]
  simp only [hk, s1, List.length_map, hr, hall, and_self, if_true]
  simp only [List.mapM_cons, List.mapM_nil, ht, ho, s2, ht2, hy]
  rfl
theorem rack_wf {r : List Int} (h : RackOK r) : ∀ x ∈ r, (Lit.int .i64 x).wf = true := by
  intro x hx
  obtain ⟨j, hj, rfl⟩ := List.getElem_of_mem hx
  have hr := h.len
  have hc := rack_cell h.len h.val (show j / 4 < 6 by omega) (show j % 4 < 4 by omega)
  rw [show j / 4 * 4 + j % 4 = j by omega] at hc
  unfold cellAt at hc
  rw [List.getD_eq_getElem?_getD, List.getElem?_eq_getElem hj] at hc
  simp only [Option.getD_some] at hc
  have h1 : IntKind.i64.min = -9223372036854775808 := rfl
  have h2 : IntKind.i64.max = 9223372036854775807 := rfl
  simp only [Lit.wf, h1, h2, Bool.and_eq_true, decide_eq_true_eq]
  omega
theorem key_facts : KeyF Try.prog xTm := by
  refine ⟨xKey, xBool, x_map, x_law, fun r hr => ?_⟩
  obtain ⟨ls, hls⟩ := keyLits_rack hr.len (rack_wf hr) (Try.prog.types.size - 3)
  obtain ⟨f, hk, _⟩ := x_key
  have hsz : Try.prog.types.size - 3 + 4 = Try.prog.types.size + 1 := by
    have : decide (3 ≤ Try.prog.types.size) = true := by kernel_rfl
    have := of_decide_eq_true this
    omega
  rw [hsz] at hls
  have hkt : Try.prog.keyType xKey = true := by kernel_rfl
  refine ⟨.string (keyBytes ls), ?_⟩
  unfold keyOf
  simp only [hk, hkt, Bool.true_and]
  have hf : (keyV r).formed Try.prog xKey = true := by
    simp [keyV, Value.formed, hk, x_sizes.1, hr.len]
  rw [if_pos hf]
  have hc : (keyV r).cells.toList = r.map (Value.int .i64) := rfl
  rw [hc, hls]
  rfl
end Go.Proofs.Ytafphbegpjjolaa.AM
