/-
  A call: what is reached from its arguments goes into a heap of the callee's own, and comes back.
-/
import Derived.Test.YtenheijeahpbkaaAmHop2
namespace Go.Proofs.Ytenheijeahpbkaa.AM
open Go

/-- the model's call of a function: it is entered and returns, or its value is there at once -/
def Invokes (P : Program) (f : FuncId) (args : Array Value) (w : World) (R : Value → World → Prop) : Prop :=
  (∃ rv w', (callFunc f args).run P w = .ok (.value rv) w' ∧ R rv w') ∨ ((callFunc f args).run P w = .ok (.enter f args) w ∧ Calls P f args w fun e w' => ∃ rv, e = .returned rv ∧ R rv w')
/-- what an answer of the abstract machine says of the model -/
def FnOK (P : Program) (F : Fns) : Prop :=
  ∀ f args h res h', F f args h = some (res, h') → ∀ (φ : Phi) (w : World) (vs : List Value), HeapOK φ (lkp h) w → All2 (VR φ) args vs →
    Invokes P f vs.toArray w fun rv w' => ∃ φ', (∀ i, i < h.length → φ' i = φ i) ∧ VR φ' res rv ∧ Mv φ (lkp h) w φ' (lkp h') w'

theorem reach_nodup (H : HF) : ∀ (n : Nat) (todo seen : List Nat), seen.Nodup → (reach H n todo seen).Nodup
  | 0, _, _, h => h
  | _ + 1, [], _, h => h
  | n + 1, i :: todo, seen, h => by
    unfold reach
    split
    · exact reach_nodup H n todo seen h
    · rename_i hi
      exact reach_nodup H n _ _ (List.nodup_append.2 ⟨h, by simp, fun a ha b hb => by simp at hb; subst hb; exact fun e => hi (e ▸ ha)⟩)
theorem pos_get : ∀ {L : List Nat} {i : Nat}, i ∈ L → L[pos L i]? = some i
  | [], _, h => by simp at h
  | a :: L, i, h => by
    unfold pos
    split
    · rename_i e; subst e; simp
    · rename_i hne
      have : i ∈ L := by rcases List.mem_cons.1 h with e | e; exact absurd e.symm hne; exact e
      simpa using pos_get this
theorem pos_of_get : ∀ {L : List Nat} {i a : Nat}, L.Nodup → L[i]? = some a → pos L a = i
  | [], _, _, _, h => by simp at h
  | b :: L, 0, a, _, h => by simp at h; simp [pos, h]
  | b :: L, i + 1, a, hn, h => by
    have h1 : L[i]? = some a := by simpa using h
    have hne : b ≠ a := fun e => (List.nodup_cons.1 hn).1 (e ▸ List.mem_of_getElem? h1)
    simp [pos, hne, pos_of_get (List.nodup_cons.1 hn).2 h1]
theorem nodup_inj {L : List Nat} (hn : L.Nodup) {i j a : Nat} (h1 : L[i]? = some a) (h2 : L[j]? = some a) : i = j := (pos_of_get hn h1).symm.trans (pos_of_get hn h2)
theorem inL_mem {L is : List Nat} (h : inL L is = true) {i : Nat} (hi : i ∈ is) : i ∈ L := by
  have := List.all_eq_true.1 h i hi
  simpa using this
/-- the places of the callee's numbers -/
def Phi.sub (φ : Phi) (L : List Nat) : Phi := fun j => (L[j]?).bind φ
theorem keeps_sub {φ : Phi} {L is : List Nat} (h : inL L is = true) : Keeps φ (φ.sub L) (pos L) is := by
  intro i hi p hp
  unfold Phi.sub
  rw [pos_get (inL_mem h hi)]
  exact hp
theorem lkp_sub {L : List Nat} {H : HF} {j : Nat} {b : Blk} (h : lkp (sub L H) j = some b) : ∃ i, L[j]? = some i ∧ b = ((H i).getD .dead).mp (pos L) := by
  unfold lkp AM.sub at h
  rw [List.getElem?_map] at h
  obtain ⟨i, hi, hb⟩ := Option.map_eq_some_iff.1 h
  exact ⟨i, hi, hb.symm⟩
theorem closed_at {L : List Nat} {H : HF} (h : closed L H = true) {i : Nat} (hi : i ∈ L) : ∃ b, H i = some b ∧ inL L b.ids = true := by
  have := List.all_eq_true.1 h i hi
  simp only [Bool.and_eq_true] at this
  obtain ⟨b, hb⟩ := Option.isSome_iff_exists.1 this.1
  refine ⟨b, hb, ?_⟩
  have h2 := this.2
  unfold idsAt at h2
  rw [hb] at h2
  exact h2
/-- the part of the heap that L names -/
theorem HeapOK.sub {φ : Phi} {H : HF} {w : World} {L : List Nat} (h : HeapOK φ H w) (hn : L.Nodup) (hc : closed L H = true) : HeapOK (φ.sub L) (lkp (AM.sub L H)) w := by
  have key : ∀ j b, lkp (AM.sub L H) j = some b → ∃ i c, L[j]? = some i ∧ H i = some c ∧ b = c.mp (pos L) ∧ inL L c.ids = true := by
    intro j b hb
    obtain ⟨i, hi, rfl⟩ := lkp_sub hb
    obtain ⟨c, hc1, hc2⟩ := closed_at hc (List.mem_of_getElem? hi)
    exact ⟨i, c, hi, hc1, by rw [hc1]; rfl, hc2⟩
  have hphi : ∀ j i p, L[j]? = some i → φ.sub L j = some p → φ i = some p := by
    intro j i p hi hp
    unfold Phi.sub at hp
    rw [hi] at hp
    exact hp
  refine ⟨fun j b p hb hp => ?_, fun j k b c p q hb hc' ho hl hjk hp hq => ?_, fun j p hp => ?_⟩
  · obtain ⟨i, c, hi, hc1, rfl, hc2⟩ := key j b hb
    exact (h.blk i c p hc1 (hphi j i p hi hp)).mp rfl (keeps_sub hc2)
  · obtain ⟨i, b', hi, hb1, rfl, _⟩ := key j b hb
    obtain ⟨i', c', hi', hc1, rfl, _⟩ := key k c hc'
    refine h.sep i i' b' c' p q hb1 hc1 (by rwa [Blk.own_mp] at ho) (by rwa [Blk.live_mp] at hl) (fun e => hjk ?_) (hphi j i p hi hp) (hphi k i' q hi' hq)
    subst e
    exact nodup_inj hn hi hi'
  · unfold Phi.sub at hp
    obtain ⟨i, hi, hp⟩ := Option.bind_eq_some_iff.1 hp
    refine ⟨((H i).getD .dead).mp (pos L), ?_⟩
    unfold lkp AM.sub
    rw [List.getElem?_map, hi]
    rfl
theorem OS.sub {φ : Phi} {H : HF} {L : List Nat} (hc : closed L H = true) {k : Nat} (h : OS (φ.sub L) (lkp (AM.sub L H)) k) : ∃ i b p, i ∈ L ∧ H i = some b ∧ b.own = true ∧ φ i = some p ∧ p.b = k := by
  obtain ⟨j, b, p, hb, ho, hp, hk⟩ := h
  obtain ⟨i, hi, rfl⟩ := lkp_sub hb
  obtain ⟨c, hc1, _⟩ := closed_at hc (List.mem_of_getElem? hi)
  rw [hc1] at ho
  unfold Phi.sub at hp
  rw [hi] at hp
  exact ⟨i, c, p, List.mem_of_getElem? hi, hc1, by simpa [Blk.own_mp] using ho, hp, hk⟩
theorem LS.sub {φ : Phi} {H : HF} {L : List Nat} (hc : closed L H = true) {k : Nat} (h : LS (φ.sub L) (lkp (AM.sub L H)) k) : ∃ i b p, i ∈ L ∧ H i = some b ∧ b.live = true ∧ φ i = some p ∧ p.b = k := by
  obtain ⟨j, b, p, hb, ho, hp, hk⟩ := h
  obtain ⟨i, hi, rfl⟩ := lkp_sub hb
  obtain ⟨c, hc1, _⟩ := closed_at hc (List.mem_of_getElem? hi)
  rw [hc1] at ho
  unfold Phi.sub at hp
  rw [hi] at hp
  exact ⟨i, c, p, List.mem_of_getElem? hi, hc1, by simpa [Blk.live_mp] using ho, hp, hk⟩
theorem updU_zip : ∀ (L : List Nat) (bs : List Blk) (H : HF) (i : Nat), L.Nodup → L.length = bs.length → updU (L.zip bs) H i = if i ∈ L then bs[pos L i]? else H i
  | [], [], H, i, _, _ => by simp [updU]
  | a :: L, b :: bs, H, i, hn, hl => by
    simp only [List.zip_cons_cons, updU]
    rw [updU_zip L bs _ i (List.nodup_cons.1 hn).2 (by simpa using hl)]
    by_cases hi : i ∈ L
    · have hne : a ≠ i := fun e => (List.nodup_cons.1 hn).1 (e ▸ hi)
      simp [hi, pos, hne]
    · by_cases ha : i = a
      · subst ha; simp [hi, pos]
      · simp [hi, ha]
  | [], _ :: _, _, _, _, h => by simp at h
  | _ :: _, [], _, _, _, h => by simp at h
theorem hop_callA {P : Program} {F : Fns} (hF : FnOK P F) {φ : Phi} {H : HF} {w : World} {f : Nat} {args : List V} {vs : List Value} {base : Nat} {r : Out} (hh : HeapOK φ H w) (ha : All2 (VR φ) args vs) (hev : callA F f args H base = some r) (hf : Free φ base r.2.1.length) :
    Invokes P f vs.toArray w (ROut φ H w base r) := by
  unfold callA at hev
  simp only at hev
  split at hev
  · rename_i hcl
    obtain ⟨L, hL⟩ : ∃ L, L = reach H 64 (args.flatMap V.ids) [] := ⟨_, rfl⟩
    rw [← hL] at hev hcl
    obtain ⟨hc, hin⟩ := hcl
    have hn : L.Nodup := by rw [hL]; exact reach_nodup H _ _ _ List.nodup_nil
    obtain ⟨rr, hrr, hev⟩ := Option.bind_eq_some_iff.1 hev
    obtain ⟨res, h'⟩ := rr
    split at hev
    · rename_i hlen
      simp only at hlen
      injection hev with hev
      subst hev
      have hhs := hh.sub hn hc
      have hargs : All2 (VR (φ.sub L)) (args.map (V.mp (pos L))) vs := ha.map_left _ fun v hv u hu => hu.mp (keeps_sub (by
        rw [inL, List.all_eq_true] at hin ⊢
        intro i hi
        exact hin i (List.mem_flatMap.2 ⟨v, hv, hi⟩)))
      have hsl : (AM.sub L H).length = L.length := by simp [AM.sub]
      have hinv := hF f _ _ res h' hrr (φ.sub L) w vs hhs hargs
      have main : ∀ rv w', (∃ φ', (∀ i, i < (AM.sub L H).length → φ' i = φ.sub L i) ∧ VR φ' res rv ∧ Mv (φ.sub L) (lkp (AM.sub L H)) w φ' (lkp h') w') →
          ROut φ H w base (res.mp (back L base), (h'.drop L.length).map (Blk.mp (back L base)), L.zip ((h'.take L.length).map (Blk.mp (back L base)))) rv w' := by
        rintro rv w' ⟨φ2, hold, hres, hmv⟩
        rw [hsl] at hold
        simp only [List.length_map, List.length_drop] at hf
        obtain ⟨k, hk⟩ : ∃ k, k = h'.length - L.length := ⟨_, rfl⟩
        rw [← hk] at hf
        obtain ⟨φ1, hφ1⟩ : ∃ φ1 : Phi, φ1 = fun i => if base ≤ i ∧ i < base + k then φ2 (L.length + (i - base)) else φ i := ⟨_, rfl⟩
        have hφo : ∀ i, (i < base ∨ base + k ≤ i) → φ1 i = φ i := fun i hi => by rw [hφ1]; simp only; rw [if_neg (by omega)]
        have hφn : ∀ i, base ≤ i → i < base + k → φ1 i = φ2 (L.length + (i - base)) := fun i h1 h2 => by rw [hφ1]; simp only; rw [if_pos ⟨h1, h2⟩]
        have hle : Le φ φ1 := le_of_old hφo hf
        have hout : ∀ i p, φ i = some p → i < base ∨ base + k ≤ i := by
          intro i p hp
          by_cases hi : i < base ∨ base + k ≤ i
          · exact hi
          · have := hf (i - base) (by omega)
            rw [show base + (i - base) = i by omega, hp] at this
            cases this
        have hkeep : ∀ is, Keeps φ2 φ1 (back L base) is := by
          intro is j _ p hp
          unfold back
          by_cases hj : j < L.length
          · rw [if_pos hj]
            rw [hold j hj] at hp
            unfold Phi.sub at hp
            rw [List.getElem?_eq_getElem hj] at hp
            have e1 : L.getD j 0 = L[j] := by rw [List.getD_eq_getElem?_getD, List.getElem?_eq_getElem hj]; rfl
            rw [e1]
            exact hle _ _ hp
          · rw [if_neg hj]
            obtain ⟨b, hb⟩ := hmv.ok.dom j p hp
            have hjl : j < h'.length := (List.getElem?_eq_some_iff.1 hb).1
            rw [hφn _ (by omega) (by omega)]
            rw [show L.length + (base + (j - L.length) - base) = j by omega]
            exact hp
        refine ⟨φ1, hres.mp (hkeep _), ?_⟩
        have hzl : L.length = ((h'.take L.length).map (Blk.mp (back L base))).length := by simp; omega
        /- what is at a number behind the call -/
        have hlook : ∀ i b, updH H base ((h'.drop L.length).map (Blk.mp (back L base))) (L.zip ((h'.take L.length).map (Blk.mp (back L base)))) i = some b →
            (∃ j c, lkp h' j = some c ∧ b = c.mp (back L base) ∧ i = back L base j ∧ ∀ p, φ1 i = some p → φ2 j = some p) ∨ (i ∉ L ∧ (i < base ∨ base + k ≤ i) ∧ H i = some b) := by
          intro i b hb
          unfold updH at hb
          simp only [List.length_map, List.length_drop, ← hk] at hb
          by_cases hi : base ≤ i ∧ i < base + k
          · rw [if_pos hi, List.getElem?_map, List.getElem?_drop] at hb
            obtain ⟨c, hc1, hc2⟩ := Option.map_eq_some_iff.1 hb
            refine .inl ⟨L.length + (i - base), c, hc1, hc2.symm, ?_, fun p hp => ?_⟩
            · unfold back; rw [if_neg (by omega)]; omega
            · rw [hφn i hi.1 hi.2] at hp; exact hp
          · rw [if_neg hi, updU_zip _ _ _ _ hn hzl] at hb
            by_cases hiL : i ∈ L
            · rw [if_pos hiL, List.getElem?_map] at hb
              obtain ⟨c, hc1, hc2⟩ := Option.map_eq_some_iff.1 hb
              have hpg := pos_get hiL
              have hpl := (List.getElem?_eq_some_iff.1 hpg).1
              rw [List.getElem?_take, if_pos hpl] at hc1
              refine .inl ⟨pos L i, c, hc1, hc2.symm, ?_, fun p hp => ?_⟩
              · unfold back; rw [if_pos hpl, List.getD_eq_getElem?_getD, hpg]; rfl
              · rw [hold _ hpl]
                unfold Phi.sub
                rw [hpg, hφo i (by omega)] at *
                exact hp
            · rw [if_neg hiL] at hb
              exact .inr ⟨hiL, by omega, hb⟩
        have hinj : ∀ j j' : Nat, j < h'.length → j' < h'.length → back L base j = back L base j' → (∃ p, φ2 j = some p) → (∃ p, φ2 j' = some p) → j = j' := by
          intro j j' hj hj' he ⟨p, hp⟩ ⟨q, hq⟩
          unfold back at he
          have inr : ∀ a, a < L.length → (∃ p, φ2 a = some p) → L.getD a 0 < base ∨ base + k ≤ L.getD a 0 := by
            intro a ha ⟨p, hp⟩
            rw [hold a ha] at hp
            unfold Phi.sub at hp
            rw [List.getElem?_eq_getElem ha] at hp
            have e1 : L.getD a 0 = L[a] := by rw [List.getD_eq_getElem?_getD, List.getElem?_eq_getElem ha]; rfl
            rw [e1]
            exact hout _ p hp
          by_cases h1 : j < L.length <;> by_cases h2 : j' < L.length
          · rw [if_pos h1, if_pos h2] at he
            rw [List.getD_eq_getElem?_getD, List.getD_eq_getElem?_getD, List.getElem?_eq_getElem h1, List.getElem?_eq_getElem h2] at he
            exact nodup_inj hn (List.getElem?_eq_getElem h1) (by rw [List.getElem?_eq_getElem h2]; simpa using he.symm)
          · rw [if_pos h1, if_neg h2] at he
            have := inr j h1 ⟨p, hp⟩
            omega
          · rw [if_neg h1, if_pos h2] at he
            have := inr j' h2 ⟨q, hq⟩
            omega
          · rw [if_neg h1, if_neg h2] at he
            omega
        have hfar : ∀ i b p, i ∉ L → H i = some b → φ i = some p → b.live = true → p.b < w.heap.size ∧ w'.heap[p.b]? = w.heap[p.b]? ∧ ¬ OS (φ.sub L) (lkp (AM.sub L H)) p.b := by
          intro i b p hiL hb hp hl
          have hlt := (hh.blk i b p hb hp).lt hl
          have hno : ¬ OS (φ.sub L) (lkp (AM.sub L H)) p.b := by
            intro hos
            obtain ⟨i0, b0, p0, hi0, hb0, ho0, hp0, he0⟩ := OS.sub hc hos
            exact hh.sep i0 i b0 b p0 p hb0 hb ho0 hl (fun e => hiL (e ▸ hi0)) hp0 hp he0
          exact ⟨hlt, hmv.fr.block _ hlt hno, hno⟩
        have hold1 : ∀ i p, (i < base ∨ base + k ≤ i) → φ1 i = some p → φ i = some p := fun i p hi hp => by rw [← hφo i hi]; exact hp
        refine ⟨fun i hi => hφo i (by simp only [List.length_map, List.length_drop, ← hk] at hi; exact hi), ⟨fun i b p hb hp => ?_, fun i j b c p q hb hc' ho hl hij hp hq => ?_, fun i p hp => ?_⟩, ⟨hmv.fr.os, hmv.fr.tape, hmv.fr.output, hmv.fr.size, fun a ha hS => hmv.fr.block a ha fun hos => hS ?_⟩, fun a ⟨i, b, p, hb, ho, hp, hka⟩ => ?_, fun a ⟨i, b, p, hb, ho, hp, hka⟩ => ?_⟩
        · rcases hlook i b hb with ⟨j, c, hc1, rfl, rfl, hp2⟩ | ⟨hiL, hi, hb⟩
          · exact (hmv.ok.blk j c p hc1 (hp2 p hp)).mp rfl (hkeep _)
          · have hp0 := hold1 i p hi hp
            cases hl : b.live with
            | false => cases b <;> simp [Blk.live] at hl; trivial
            | true => exact (hh.blk i b p hb hp0).mono (hfar i b p hiL hb hp0 hl).2.1 hle
        · rcases hlook i b hb with ⟨j1, c1, hc1, rfl, rfl, hp2⟩ | ⟨hiL, hi, hb1⟩ <;> rcases hlook j c hc' with ⟨j2, c2, hc2, rfl, rfl, hq2⟩ | ⟨hjL, hj, hb2⟩
          · exact hmv.ok.sep j1 j2 c1 c2 p q hc1 hc2 (by rwa [Blk.own_mp] at ho) (by rwa [Blk.live_mp] at hl) (fun e => hij (by rw [e])) (hp2 p hp) (hq2 q hq)
          · have hq0 := hold1 j q hj hq
            obtain ⟨f1, f2, f3⟩ := hfar j c q hjL hb2 hq0 hl
            have hos := hmv.own p.b ⟨j1, c1, p, hc1, by rwa [Blk.own_mp] at ho, hp2 p hp, rfl⟩
            intro e
            rcases hos with hos | hos
            · exact f3 (e ▸ hos)
            · omega
          · have hp0 := hold1 i p hi hp
            have hls := hmv.lv q.b ⟨j2, c2, q, hc2, by rwa [Blk.live_mp] at hl, hq2 q hq, rfl⟩
            intro e
            rcases hls with hls | hls
            · obtain ⟨i0, b0, p0, hi0, hb0, hl0, hp00, he0⟩ := LS.sub hc hls
              exact hh.sep i i0 b b0 p p0 hb1 hb0 ho hl0 (fun e => hiL (e ▸ hi0)) hp0 hp00 (e.trans he0.symm)
            · have := (hh.blk i b p hb1 hp0).lt (Blk.live_of_own ho)
              omega
          · exact hh.sep i j b c p q hb1 hb2 ho hl hij (hold1 i p hi hp) (hold1 j q hj hq)
        · by_cases hi : base ≤ i ∧ i < base + k
          · have hlt : i - base < h'.length - L.length := by omega
            refine ⟨(h'[L.length + (i - base)]'(by omega)).mp (back L base), ?_⟩
            unfold updH
            rw [if_pos (by simp only [List.length_map, List.length_drop]; omega), List.getElem?_map, List.getElem?_drop, List.getElem?_eq_getElem (by omega)]
            rfl
          · obtain ⟨b, hb⟩ := hh.dom i p (hold1 i p (by omega) hp)
            by_cases hiL : i ∈ L
            · have hpl := (List.getElem?_eq_some_iff.1 (pos_get hiL)).1
              refine ⟨(h'[pos L i]'(by omega)).mp (back L base), ?_⟩
              unfold updH
              rw [if_neg (by simp only [List.length_map, List.length_drop]; omega), updU_zip _ _ _ _ hn hzl, if_pos hiL, List.getElem?_map, List.getElem?_take, if_pos hpl, List.getElem?_eq_getElem (by omega)]
              rfl
            · exact ⟨b, by unfold updH; rw [if_neg (by simp only [List.length_map, List.length_drop]; omega), updU_zip _ _ _ _ hn hzl, if_neg hiL]; exact hb⟩
        · obtain ⟨i0, b0, p0, _, hb0, ho0, hp0, he0⟩ := OS.sub hc hos
          exact ⟨i0, b0, p0, hb0, ho0, hp0, he0⟩
        · rcases hlook i b hb with ⟨j, c, hc1, rfl, rfl, hp2⟩ | ⟨hiL, hi, hb⟩
          · rcases hmv.own a ⟨j, c, p, hc1, by rwa [Blk.own_mp] at ho, hp2 p hp, hka⟩ with hos | hos
            · obtain ⟨i0, b0, p0, _, hb0, ho0, hp0, he0⟩ := OS.sub hc hos
              exact .inl ⟨i0, b0, p0, hb0, ho0, hp0, he0⟩
            · exact .inr hos
          · exact .inl ⟨i, b, p, hb, ho, hold1 i p hi hp, hka⟩
        · rcases hlook i b hb with ⟨j, c, hc1, rfl, rfl, hp2⟩ | ⟨hiL, hi, hb⟩
          · rcases hmv.lv a ⟨j, c, p, hc1, by rwa [Blk.live_mp] at ho, hp2 p hp, hka⟩ with hos | hos
            · obtain ⟨i0, b0, p0, _, hb0, ho0, hp0, he0⟩ := LS.sub hc hos
              exact .inl ⟨i0, b0, p0, hb0, ho0, hp0, he0⟩
            · exact .inr hos
          · exact .inl ⟨i, b, p, hb, ho, hold1 i p hi hp, hka⟩
      rcases hinv with ⟨rv, w', hr, h⟩ | ⟨hr, h⟩
      · exact .inl ⟨rv, w', hr, main rv w' h⟩
      · exact .inr ⟨hr, h.mono fun e w' ⟨rv, he, h⟩ => ⟨rv, he, main rv w' h⟩⟩
    · cases hev
  · cases hev

theorem ops_ok {φ : Phi} {e : Env} {a : Act} (he : EnvOK φ e a) : ∀ {xs : List Operand} {ys : List Opd}, All2 (fun x y => okOpd x y = true) xs ys → All2 (VR φ) (ys.map (Opd.ev e)) (xs.map a.eval)
  | [], [], _ => trivial
  | _ :: _, _ :: _, h => ⟨opd_ok he h.1, ops_ok he h.2⟩
  | [], _ :: _, h => h.elim
  | _ :: _, [], h => h.elim
theorem ptrs_ok {φ : Phi} : ∀ {cs : List (Nat × Nat)} {vs : List Value}, All2 (PR φ) cs vs → All2 (VR φ) (cs.map fun p => V.c (.ptr p.1 p.2)) vs
  | [], [], _ => trivial
  | _ :: _, _ :: _, h => ⟨h.1, ptrs_ok h.2⟩
  | [], _ :: _, h => h.elim
  | _ :: _, [], h => h.elim
theorem hop_call {P : Program} {F : Fns} (hF : FnOK P F) {ts : Array TypeId} {f : Operand} {g : Opd} {xs : Array Operand} {ys : List Opd} (hf : okOpd f g = true) (h : All2 (fun x y => okOpd x y = true) xs.toList ys) : HopOK P F (.call { callee := .value f, args := xs, argTypes := ts }) (.call g ys) := by
  intro φ H e a w base r op hop he hh hev hfr h0
  have hf := opd_ok he hf
  simp only [HOp.ev] at hev
  split at hev
  · rename_i k caps hm
    rw [hm] at hf
    obtain ⟨cs, hv, hcs⟩ := hf
    have hargs : All2 (VR φ) (ys.map (Opd.ev e) ++ caps.map fun p => V.c (.ptr p.1 p.2)) (xs.toList.map a.eval ++ cs) := (ops_ok he h).append (ptrs_ok hcs)
    have hinv := hop_callA hF hh hargs hev hfr
    have he1 : (xs.map a.eval) ++ cs.toArray = (xs.toList.map a.eval ++ cs).toArray := by
      apply Array.ext'; simp
    have hrun : (execOp a.eval op).run P w = (callFunc k (xs.toList.map a.eval ++ cs).toArray).run P w := by
      rw [← he1]
      simp [execOp, hop, resolve, hv, Deferred.ofValue, invoke]
    rcases hinv with ⟨rv, w', hr, hR⟩ | ⟨hr, hR⟩
    · exact .inl ⟨rv, w', hrun.trans hr, hR⟩
    · exact .inr (.inr ⟨_, _, hrun.trans hr, hR⟩)
  · cases hev
end Go.Proofs.Ytenheijeahpbkaa.AM
