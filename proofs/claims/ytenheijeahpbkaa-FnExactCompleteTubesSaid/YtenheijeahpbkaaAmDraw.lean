/-
  Operations whose order is open: any order that the model may take comes to what the listed one comes to.
-/
import Derived.Test.YtenheijeahpbkaaAmSeq
namespace Go.Proofs.Ytenheijeahpbkaa.AM
open Go

/-! ### what an operation looks at -/
def POp.opds : POp → List Opd
  | .mv x => [x] | .nilsl _ => [] | .pick c a b => [c, a, b] | .alloc _ => [] | .box _ x => [x]
  | .build _ ps => ps.map fun p => p.2.2
  | .mksl _ _ _ ps => ps.map fun p => p.2.2
  | .mkslice _ _ l c => [l, c] | .bin _ x y => [x, y] | .eqv _ _ x y => [x, y] | .eqb _ x y => [x, y] | .iserr _ x => [x] | .un _ x => [x] | .conv _ x => [x]
  | .mkfn _ cs => cs
  | .slS _ x lo hi => x :: lo.toList ++ hi.toList | .sl0 _ x => [x] | .slStr x lo hi => x :: lo.toList ++ hi.toList
  | .fld _ x => [x] | .fldV _ _ _ x => [x] | .ixA _ _ x i => [x, i] | .ixS _ x i => [x, i] | .ixStr x i => [x, i] | .ixV _ _ _ x i => [x, i]
  | .ext x _ => [x] | .len x => [x] | .lenStr x => [x] | .mnmx _ xs => xs | .nn x => [x]
def HOp.opds : HOp → List Opd
  | .load _ _ a => [a] | .slA _ _ x lo hi => x :: lo.toList ++ hi.toList | .store _ a x => [a, x] | .app _ a b => [a, b] | .s2b x => [x] | .b2s x => [x] | .call f xs => f :: xs
def AOp.opds : AOp → List Opd | .p q => q.opds | .h q => q.opds
theorem fillAt_congr {e e' : Env} : ∀ (ps : List (Nat × Nat × Opd)) (cs : List C), (∀ x ∈ ps.map (fun p => p.2.2), Opd.ev e x = Opd.ev e' x) → fillAt e ps cs = fillAt e' ps cs
  | [], _, _ => rfl
  | (o, n, x) :: ps, cs, h => by
    have hx := h x (by simp)
    simp only [fillAt, hx]
    split
    · exact fillAt_congr ps _ fun y hy => h y (by simp only [List.map_cons, List.mem_cons]; exact .inr hy)
    · rfl
theorem mmL_congr {e e' : Env} (m : Bool) (k : IntKind) : ∀ (xs : List Opd) (a : Int), (∀ x ∈ xs, Opd.ev e x = Opd.ev e' x) → mmL e m k a xs = mmL e' m k a xs
  | [], _, _ => rfl
  | x :: xs, a, h => by
    simp only [mmL, h x (by simp)]
    split
    · split
      · exact mmL_congr m k xs _ fun y hy => h y (by simp [hy])
      · rfl
    · rfl
theorem capsOf_congr {e e' : Env} : ∀ (xs : List Opd), (∀ x ∈ xs, Opd.ev e x = Opd.ev e' x) → capsOf e xs = capsOf e' xs
  | [], _ => rfl
  | x :: xs, h => by
    simp only [capsOf, h x (by simp), capsOf_congr xs fun y hy => h y (by simp [hy])]
theorem bnd_congr {e e' : Env} (x : Option Opd) (d l : Nat) (h : ∀ y ∈ x.toList, Opd.ev e y = Opd.ev e' y) : bnd e x d l = bnd e' x d l := by
  cases x with
  | none => rfl
  | some y => simp only [bnd, h y (by simp)]
theorem pop_congr {e e' : Env} (n : Nat) (q : POp) (h : ∀ x ∈ q.opds, Opd.ev e x = Opd.ev e' x) : q.ev e n = q.ev e' n := by
  cases q <;> simp only [POp.opds] at h
  case build z ps => simp only [POp.ev, fillAt_congr ps _ h]
  case mksl sz k z ps => simp only [POp.ev, fillAt_congr ps _ h]
  case mkfn f cs => simp only [POp.ev, capsOf_congr cs h]
  case mnmx m xs =>
    cases xs with
    | nil => rfl
    | cons x xs =>
      simp only [POp.ev, h x (by simp)]
      split
      · rw [mmL_congr m _ xs _ fun y hy => h y (by simp [hy])]
      · rfl
  case slS sz x lo hi =>
    simp only [POp.ev, h x (by simp), bnd_congr (e := e) (e' := e') lo _ _ fun y hy => h y (by simp at hy ⊢; simp [hy]), bnd_congr (e := e) (e' := e') hi _ _ fun y hy => h y (by simp at hy ⊢; simp [hy])]
  case slStr x lo hi =>
    simp only [POp.ev, h x (by simp), bnd_congr (e := e) (e' := e') lo _ _ fun y hy => h y (by simp at hy ⊢; simp [hy]), bnd_congr (e := e) (e' := e') hi _ _ fun y hy => h y (by simp at hy ⊢; simp [hy])]
  all_goals simp only [POp.ev]
  all_goals (simp only [List.mem_cons, List.not_mem_nil, or_false, forall_eq_or_imp, forall_eq] at h)
  all_goals first | rfl | simp only [h]

/-- operands whose block is looked at; whose block is written -/
def AOp.rs : AOp → List Opd
  | .h (.load _ _ a) => [a] | .h (.slA _ _ x _ _) => [x] | .h (.store _ a _) => [a] | .h (.app _ a b) => [a, b] | .h (.b2s x) => [x] | _ => []
def AOp.ws : AOp → List Opd
  | .h (.store _ a _) => [a] | .h (.app _ a _) => [a] | _ => []
theorem readB_congr {H H' : HF} {i o n : Nat} (h : H i = H' i) : readB H i o n = readB H' i o n := by unfold readB; rw [h]
theorem appSrc_congr {H H' : HF} {sz : Nat} {v : V} (h : ∀ i, idOf v = some i → H i = H' i) : appSrc H sz v = appSrc H' sz v := by
  cases v with
  | c x => cases x <;> simp only [appSrc]
           rename_i i o ln sz'
           rw [readB_congr (h i rfl)]
  | _ => rfl
theorem reach_prefix (H : HF) : ∀ (n : Nat) (todo seen : List Nat), ∃ r, reach H n todo seen = seen ++ r
  | 0, _, seen => ⟨[], by simp [reach]⟩
  | _ + 1, [], seen => ⟨[], by simp [reach]⟩
  | n + 1, i :: todo, seen => by
    unfold reach
    split
    · exact reach_prefix H n todo seen
    · obtain ⟨r, hr⟩ := reach_prefix H n (todo ++ idsAt H i) (seen ++ [i])
      exact ⟨i :: r, by rw [hr]; simp⟩
theorem reach_congr {H H' : HF} {m : Nat} (h : ∀ i, i < m → H i = H' i) : ∀ (n : Nat) (todo seen : List Nat), (∀ i ∈ reach H n todo seen, i < m) → reach H' n todo seen = reach H n todo seen
  | 0, _, _, _ => rfl
  | _ + 1, [], _, _ => rfl
  | n + 1, i :: todo, seen, hm => by
    unfold reach at hm ⊢
    split
    · rename_i hi
      rw [if_pos hi] at hm
      exact reach_congr h n todo seen hm
    · rename_i hi
      rw [if_neg hi] at hm
      have hlt : i < m := by
        obtain ⟨r, hr⟩ := reach_prefix H n (todo ++ idsAt H i) (seen ++ [i])
        exact hm i (by rw [hr]; simp)
      have he : idsAt H' i = idsAt H i := by unfold idsAt; rw [h i hlt]
      rw [he]
      exact reach_congr h n _ _ hm
theorem callA_congr {F : Fns} {f : Nat} {args : List V} {H H' : HF} {base m : Nat} {r : Out} (h : ∀ i, i < m → H i = H' i) (hr : callA F f args H base = some r) (hm : ∀ p ∈ r.2.2, p.1 < m) : callA F f args H' base = some r := by
  unfold callA at hr ⊢
  simp only at hr ⊢
  obtain ⟨L, hL⟩ : ∃ L, L = reach H 64 (args.flatMap V.ids) [] := ⟨_, rfl⟩
  rw [← hL] at hr
  have hlt : (∃ x, (F f (args.map (V.mp (pos L))) (sub L H)) = some x ∧ L.length ≤ x.2.length ∧ r.2.2 = L.zip ((x.2.take L.length).map (Blk.mp (back L base)))) → ∀ i ∈ L, i < m := by
    rintro ⟨x, _, hx, hu⟩ i hi
    have hz : i ∈ (r.2.2).map Prod.fst := by
      rw [hu, List.map_fst_zip (by simp; omega)]
      exact hi
    obtain ⟨p, hp, rfl⟩ := List.mem_map.1 hz
    exact hm p hp
  split at hr
  · rename_i hc
    obtain ⟨x, hx, hr⟩ := Option.bind_eq_some_iff.1 hr
    split at hr
    · rename_i hle
      injection hr with hr
      have hL' := hlt ⟨x, hx, hle, by rw [← hr]⟩
      have hre : reach H' 64 (args.flatMap V.ids) [] = L := by rw [hL] at hL' ⊢; exact reach_congr h _ _ _ hL'
      have hcl : closed L H' = closed L H := by
        unfold closed
        rw [Bool.eq_iff_iff]
        simp only [List.all_eq_true]
        constructor <;> intro hh i hi <;> have := hh i hi <;> simpa [idsAt, h i (hL' i hi)] using this
      have hsub : sub L H' = sub L H := by
        unfold sub
        exact List.map_congr_left fun i hi => by rw [h i (hL' i hi)]
      rw [hre, hcl, hsub, if_pos hc, hx]
      simp only [Option.bind_some]
      rw [if_pos hle, hr]
    · cases hr
  · cases hr
theorem hop_congr {F : Fns} {e e' : Env} {H H' : HF} (base : Nat) (q : HOp) (hq : (AOp.h q).isCall = false) (h : ∀ x ∈ q.opds, Opd.ev e x = Opd.ev e' x) (hH : ∀ y ∈ (AOp.h q).rs, ∀ i, idOf (y.ev e) = some i → H i = H' i) : q.ev F e H base = q.ev F e' H' base := by
  cases q with
  | load n agg a =>
    have ha := h a (by simp [HOp.opds])
    have hi := hH a (by simp [AOp.rs])
    simp only [HOp.ev, ← ha]
    split
    · rename_i i o hv; rw [readB_congr (hi i (by rw [hv]; rfl))]
    · rfl
  | slA m sz x lo hi =>
    have ha := h x (by simp [HOp.opds])
    have hi' := hH x (by simp [AOp.rs])
    have e1 := fun d l => bnd_congr (e := e) (e' := e') lo d l fun y hy => h y (by simp only [HOp.opds, List.cons_append, List.mem_cons, List.mem_append]; exact .inr (.inl hy))
    have e2 := fun d l => bnd_congr (e := e) (e' := e') hi d l fun y hy => h y (by simp only [HOp.opds, List.cons_append, List.mem_cons, List.mem_append]; exact .inr (.inr hy))
    simp only [HOp.ev, ← ha, e1, e2]
    split
    · rename_i i o hv; rw [readB_congr (hi' i (by rw [hv]; rfl))]
    · rfl
  | store n a x =>
    have ha := h a (by simp [HOp.opds])
    have hx := h x (by simp [HOp.opds])
    have hi := hH a (by simp [AOp.rs])
    simp only [HOp.ev, ← ha, ← hx]
    split
    · rename_i i o hv; rw [hi i (by rw [hv]; rfl)]
    · rfl
  | app sz a b =>
    have ha := h a (by simp [HOp.opds])
    have hb := h b (by simp [HOp.opds])
    have hi := hH a (by simp [AOp.rs])
    have hj := hH b (by simp [AOp.rs])
    simp only [HOp.ev, ← ha, ← hb, appSrc_congr hj]
    congr 1
    funext q
    split
    · rename_i i o ln sz' hv; rw [hi i (by rw [hv]; rfl)]
    · rfl
    · rfl
  | s2b x => simp only [HOp.ev, h x (by simp [HOp.opds])]
  | b2s x =>
    have ha := h x (by simp [HOp.opds])
    have hi := hH x (by simp [AOp.rs])
    simp only [HOp.ev, ← ha]
    split
    · rename_i i o ln hv; rw [readB_congr (hi i (by rw [hv]; rfl))]
    · rfl
    · rfl
  | call f xs => simp [AOp.isCall] at hq
/-- what a plain operation writes belongs to an operand of its own -/
theorem ws_ids {F : Fns} {q : AOp} {e : Env} {H : HF} {base : Nat} {r : Out} (hq : q.isCall = false) (h : q.ev F e H base = some r) : ∀ p ∈ r.2.2, ∃ x ∈ q.ws, idOf (x.ev e) = some p.1 := by
  cases q with
  | p q =>
    simp only [AOp.ev] at h
    obtain ⟨s, _, rfl⟩ := Option.map_eq_some_iff.1 h
    simp
  | h q =>
    simp only [AOp.ev] at h
    cases q with
    | load n agg a =>
      simp only [HOp.ev] at h
      split at h
      · obtain ⟨s, _, rfl⟩ := Option.map_eq_some_iff.1 h; simp
      · cases h
    | slA m sz x lo hi =>
      simp only [HOp.ev] at h
      split at h
      · split at h
        · obtain ⟨_, _, h⟩ := Option.bind_eq_some_iff.1 h
          obtain ⟨_, _, rfl⟩ := Option.map_eq_some_iff.1 h
          simp
        · cases h
      · cases h
    | store n a x =>
      simp only [HOp.ev] at h
      split at h
      · rename_i i o hv
        split at h
        · split at h
          · injection h with h; subst h; simp [AOp.ws, hv, idOf]
          · cases h
        · cases h
      · cases h
    | app sz a b =>
      simp only [HOp.ev] at h
      obtain ⟨_, _, h⟩ := Option.bind_eq_some_iff.1 h
      split at h
      · rename_i i o ln sz' hv
        split at h
        · split at h
          · injection h with h; subst h; simp [AOp.ws, hv, idOf]
          · cases h
        · cases h
      · split at h
        · injection h with h; subst h; simp
        · cases h
      · cases h
    | s2b x =>
      simp only [HOp.ev] at h
      split at h
      · split at h
        · injection h with h; subst h; simp
        · cases h
      · cases h
    | b2s x =>
      simp only [HOp.ev] at h
      split at h
      · obtain ⟨_, _, h⟩ := Option.bind_eq_some_iff.1 h
        split at h
        · injection h with h; subst h; simp
        · cases h
      · injection h with h; subst h; simp
      · cases h
    | call f args => simp [AOp.isCall] at hq
theorem updU_other : ∀ (us : List (Nat × Blk)) (H : HF) (i : Nat), (∀ p ∈ us, p.1 ≠ i) → updU us H i = H i
  | [], _, _, _ => rfl
  | p :: us, H, i, h => by
    simp only [updU]
    rw [updU_other us _ i fun q hq => h q (by simp [hq]), if_neg (Ne.symm (h p (by simp)))]
theorem updU_same : ∀ (us : List (Nat × Blk)) (H : HF), (∀ p ∈ us, H p.1 = some p.2) → updU us H = H
  | [], _, _ => rfl
  | p :: us, H, h => by
    simp only [updU]
    have he : (fun i => if i = p.1 then some p.2 else H i) = H := by
      funext i
      by_cases hi : i = p.1
      · rw [if_pos hi, hi, h p (by simp)]
      · rw [if_neg hi]
    rw [he]
    exact updU_same us H fun q hq => h q (by simp [hq])
end Go.Proofs.Ytenheijeahpbkaa.AM
