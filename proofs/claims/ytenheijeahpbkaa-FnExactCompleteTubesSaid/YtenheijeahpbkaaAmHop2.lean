/-
  append, []byte(s), string(b).
-/
import Derived.Test.YtenheijeahpbkaaAmHop
import Derived.Lib.ConvBytes
import Derived.Laws.BytesString
namespace Go.Proofs.Ytenheijeahpbkaa.AM
open Go

def kill (i : Nat) (H : HF) : HF := fun j => if j = i then some .dead else H j
theorem HeapOK.kill {φ : Phi} {H : HF} {w : World} (h : HeapOK φ H w) (i : Nat) : HeapOK φ (kill i H) w := by
  have hlook : ∀ j b, AM.kill i H j = some b → (j = i ∧ b = .dead) ∨ (j ≠ i ∧ H j = some b) := by
    intro j b hj
    unfold AM.kill at hj
    split at hj
    · rename_i he; injection hj with hj; exact .inl ⟨he, hj.symm⟩
    · rename_i he; exact .inr ⟨he, hj⟩
  refine ⟨fun j b p hj hp => ?_, fun j k b c p q hj hk ho hl hjk hp hq => ?_, fun j p hp => ?_⟩
  · rcases hlook j b hj with ⟨_, rfl⟩ | ⟨_, hj⟩
    · trivial
    · exact h.blk j b p hj hp
  · rcases hlook j b hj with ⟨_, rfl⟩ | ⟨_, hj⟩
    · simp [Blk.own] at ho
    · rcases hlook k c hk with ⟨_, rfl⟩ | ⟨_, hk⟩
      · simp [Blk.live] at hl
      · exact h.sep j k b c p q hj hk ho hl hjk hp hq
  · obtain ⟨b, hb⟩ := h.dom j p hp
    by_cases hji : j = i
    · exact ⟨.dead, by simp [AM.kill, hji]⟩
    · exact ⟨b, by simp [AM.kill, hji, hb]⟩
theorem OutOK.kill {φ φ' : Phi} {H : HF} {w w' : World} {base : Nat} {ns : List Blk} (h : OutOK φ H w base ns [] φ' w') {i : Nat} (hi : i < base ∨ base + ns.length ≤ i) : OutOK φ H w base ns [(i, .dead)] φ' w' := by
  have he : updH H base ns [(i, .dead)] = AM.kill i (updH H base ns []) := by
    funext j
    simp only [updH, AM.kill, updU]
    by_cases hj : base ≤ j ∧ j < base + ns.length
    · rw [if_pos hj, if_neg (by omega), if_pos hj]
    · rw [if_neg hj, if_neg hj]
  refine ⟨h.old, by rw [he]; exact h.mv.ok.kill i, h.mv.fr, fun k ⟨j, b, p, hb, ho, hp, hk⟩ => h.mv.own k ?_, fun k ⟨j, b, p, hb, ho, hp, hk⟩ => h.mv.lv k ?_⟩
  · rw [he] at hb
    unfold AM.kill at hb
    split at hb
    · injection hb with hb; subst hb; simp [Blk.own] at ho
    · exact ⟨j, b, p, hb, ho, hp, hk⟩
  · rw [he] at hb
    unfold AM.kill at hb
    split at hb
    · injection hb with hb; subst hb; simp [Blk.live] at ho
    · exact ⟨j, b, p, hb, ho, hp, hk⟩
/-- append in place: the new row takes the old one's place -/
theorem OutOK.inplace {φ : Phi} {H : HF} {w : World} {i base o : Nat} {p : Pl} {cs : List C} {cs' : List C} {cur cur' : Array Value} {t : TypeId} {fr : Nat × Nat} (h : HeapOK φ H w) (hb : H i = some (.cells cs true)) (hp : φ i = some p) (hg : w.heap[p.b]? = some (.cells cur t fr)) (hsz : cur'.size = cur.size)
    (hf : φ base = none) (h0 : H base = none) (hl : o + cs'.length ≤ p.tot) (hc : ∀ j c, cs'[j]? = some c → ∃ v, cur'[p.o + o + j]? = some v ∧ VRc φ c v) :
    OutOK φ H w base [.cells cs' true] [(i, .dead)] (fun j => if j = base then some ⟨p.b, p.o + o, p.tot - o⟩ else φ j) (w.setRow p.b cur') := by
  obtain ⟨cur0, t0, fr0, k1, k2, k3, k4, k5⟩ := h.blk i _ p hb hp
  rw [hg] at k1
  injection k1 with k1
  injection k1 with k1a k1b k1c
  subst k1a; subst k1b; subst k1c
  have hib : i ≠ base := fun e => by subst e; rw [hb] at h0; cases h0
  obtain ⟨φ', hφ'⟩ : ∃ φ' : Phi, φ' = fun j => if j = base then some ⟨p.b, p.o + o, p.tot - o⟩ else φ j := ⟨_, rfl⟩
  have hle : Le φ φ' := by
    intro j q hq
    rw [hφ']
    by_cases hj : j = base
    · subst hj; rw [hf] at hq; cases hq
    · simp [hj, hq]
  have hφo : ∀ j, j ≠ base → φ' j = φ j := fun j hj => by rw [hφ']; simp [hj]
  have hφb : φ' base = some ⟨p.b, p.o + o, p.tot - o⟩ := by rw [hφ']; simp
  rw [← hφ']
  have hlook : ∀ j b, updH H base [.cells cs' true] [(i, .dead)] j = some b → (j = base ∧ b = .cells cs' true) ∨ (j = i ∧ b = .dead) ∨ (j ≠ i ∧ j ≠ base ∧ H j = some b) := by
    intro j b hj
    unfold updH at hj
    by_cases hjb : j = base
    · subst hjb
      rw [if_pos (by simp)] at hj
      simp at hj
      exact .inl ⟨rfl, hj.symm⟩
    · rw [if_neg (by simp; omega)] at hj
      simp only [updU] at hj
      split at hj
      · rename_i he; injection hj with hj; exact .inr (.inl ⟨he, hj.symm⟩)
      · rename_i he; exact .inr (.inr ⟨he, hjb, hj⟩)
  have hother : ∀ k, k ≠ p.b → (w.setRow p.b cur').heap[k]? = w.heap[k]? := fun k hk => setRow_other w p.b k cur' hk
  refine ⟨fun j hj => hφo j (by simp at hj; omega), ⟨fun j b q hj hq => ?_, fun j k b c q r hj hk ho hlv hjk hq hr => ?_, fun j q hq => ?_⟩, ⟨rfl, rfl, rfl, by simp, fun k _ hS => hother k fun hk => hS ⟨i, _, p, hb, rfl, hp, hk.symm⟩⟩, fun k ⟨j, b, q, hj, ho, hq, hk⟩ => ?_, fun k ⟨j, b, q, hj, ho, hq, hk⟩ => ?_⟩
  · rcases hlook j b hj with ⟨rfl, rfl⟩ | ⟨rfl, rfl⟩ | ⟨hj1, hj2, hj⟩
    · rw [hφb] at hq; injection hq with hq; subst hq
      refine ⟨cur', t, fr, setRow_heap w p.b cur cur' t fr hg, by simp only; omega, by simp only; omega, fun j c hj => ?_, fun _ j hj => ?_⟩
      · obtain ⟨v, hv, hr⟩ := hc j c hj
        exact ⟨v, hv, hr.mono hle⟩
      · have := k5 rfl (o + j) (by simp only at hj; omega)
        simp only
        rwa [← Nat.add_assoc] at this
    · trivial
    · rw [hφo j hj2] at hq
      have hb0 := h.blk j b q hj hq
      cases hlv : b.live with
      | false => cases b <;> simp [Blk.live] at hlv; trivial
      | true =>
        have hne2 : p.b ≠ q.b := h.sep i j _ b p q hb hj rfl hlv (Ne.symm hj1) hp hq
        exact hb0.mono (hother q.b (Ne.symm hne2)) hle
  · rcases hlook j b hj with ⟨e1, e2⟩ | ⟨e1, e2⟩ | ⟨hj1, hj2, hj3⟩
    · subst e2
      rw [e1, hφb] at hq; injection hq with hq; subst hq
      rcases hlook k c hk with ⟨f1, f2⟩ | ⟨f1, f2⟩ | ⟨hk1, hk2, hk3⟩
      · exact absurd (e1.trans f1.symm) hjk
      · subst f2; simp [Blk.live] at hlv
      · rw [hφo k hk2] at hr
        exact h.sep i k _ c p r hb hk3 rfl hlv (Ne.symm hk1) hp hr
    · subst e2; simp [Blk.own] at ho
    · rw [hφo j hj2] at hq
      rcases hlook k c hk with ⟨f1, f2⟩ | ⟨f1, f2⟩ | ⟨hk1, hk2, hk3⟩
      · rw [f1, hφb] at hr; injection hr with hr; subst hr
        exact h.sep j i b _ q p hj3 hb ho rfl hj1 hq hp
      · subst f2; simp [Blk.live] at hlv
      · rw [hφo k hk2] at hr
        exact h.sep j k b c q r hj3 hk3 ho hlv hjk hq hr
  · by_cases hjb : j = base
    · exact ⟨.cells cs' true, by unfold updH; rw [if_pos (by simp; omega)]; simp [hjb]⟩
    · rw [hφo j hjb] at hq
      obtain ⟨b, hb'⟩ := h.dom j q hq
      by_cases hji : j = i
      · exact ⟨.dead, by unfold updH; rw [if_neg (by simp; omega)]; simp [updU, hji]⟩
      · exact ⟨b, by unfold updH; rw [if_neg (by simp; omega)]; simp [updU, hji, hb']⟩
  · rcases hlook j b hj with ⟨rfl, rfl⟩ | ⟨rfl, rfl⟩ | ⟨hj1, hj2, hj⟩
    · rw [hφb] at hq; injection hq with hq; subst hq
      exact .inl ⟨i, _, p, hb, rfl, hp, hk⟩
    · simp [Blk.own] at ho
    · rw [hφo j hj2] at hq
      exact .inl ⟨j, b, q, hj, ho, hq, hk⟩
  · rcases hlook j b hj with ⟨rfl, rfl⟩ | ⟨rfl, rfl⟩ | ⟨hj1, hj2, hj⟩
    · rw [hφb] at hq; injection hq with hq; subst hq
      exact .inl ⟨i, _, p, hb, rfl, hp, hk⟩
    · simp [Blk.live] at ho
    · rw [hφo j hj2] at hq
      exact .inl ⟨j, b, q, hj, ho, hq, hk⟩
/-- what is appended: its cells are read, or there are none -/
theorem app_src {φ : Phi} {H : HF} {w : World} {sz : Nat} {b : V} {v : Value} {q : Nat × List C} (hh : HeapOK φ H w) (hv : VR φ b v)
    (hq : appSrc H sz b = some q) :
    ∃ ad cap vs, v = .slice ad q.1 cap ∧ All2 (VRc φ) q.2 vs ∧ vs.length = q.1 * sz ∧ (∀ u ∈ vs, u.oneCell' = true) ∧ (q.1 ≠ 0 → ∃ a, ad = some a ∧ ∀ j u, vs[j]? = some u → w.cell? (a.add j) = some u) := by
  cases b with
  | tup => cases hq
  | agg => cases hq
  | c x => cases x with
    | sl i o ln sz' =>
      simp only [appSrc] at hq
      split at hq
      · rename_i hs
        subst hs
        obtain ⟨cs, hc, hq⟩ := Option.bind_eq_some_iff.1 hq
        split at hq
        · rename_i hnd
          injection hq with hq
          subst hq
          rcases hv with ⟨h0, ad, hv⟩ | ⟨p, cap, hp, hv, _⟩
          · subst h0
            have hcs : cs = [] := by
              unfold readB at hc
              split at hc
              · split at hc
                · injection hc with hc; rw [← hc]; simp
                · cases hc
              · cases hc
            subst hcs
            exact ⟨ad, 0, [], hv, trivial, by simp, by simp, fun h => absurd rfl h⟩
          · obtain ⟨vs, ha, hl, _, hcell⟩ := read_ok hh hc hp
            exact ⟨_, cap, vs, hv, ha, hl, ha.one hnd, fun _ => ⟨_, rfl, fun j u hj => by rw [add_lit]; exact hcell j u hj⟩⟩
        · cases hq
      · cases hq
    | nsl =>
      injection hq with hq
      subst hq
      obtain ⟨ad, hv⟩ := hv
      exact ⟨ad, 0, [], hv, trivial, by simp, by simp, fun h => absurd rfl h⟩
    | _ => cases hq
/-- the model's append, told in one: enough room, or new memory -/
theorem run_app {P : Program} {w : World} {t ty el : TypeId} {inf : TypeInfo} {z : Value} (ht : P.underlying t = some (.slice el)) (hi : P.info? el = some inf) (hz : inf.zero = some z) (hzs : z.cells.size = inf.size) (hby : inf.bytes ≤ 2048)
    {ad ax : Option Addr} {ln cap m cx : Nat} {olds news : List Value} (hlo : olds.length = ln * inf.size) (holds : ln ≠ 0 → ∃ a, ad = some a ∧ ∀ j u, olds[j]? = some u → w.cell? (a.add j) = some u)
    (hln : news.length = m * inf.size) (hnews : m ≠ 0 → ∃ a, ax = some a ∧ ∀ j u, news[j]? = some u → w.cell? (a.add j) = some u) (hroom : ln + m ≤ maxRoom) (hgrow : cap < ln + m) :
    ∃ cur ncap, (Builtin.append_ #[t, t] ty #[.slice ad ln cap, .slice ax m cx]).run P w = .ok (.slice (some ⟨w.heap.size, 0, none⟩) (ln + m) ncap) (w.drew.alloc (.cells cur el)) ∧ ln + m ≤ ncap ∧ ncap ≤ maxLen ∧ cur.size = ncap * inf.size ∧ cur.toList.take ((ln + m) * inf.size) = olds ++ news := by
  have hmr : maxRoom = 68719476736 := rfl
  rw [hmr] at hroom
  have hn : ¬ (ln + m ≤ cap) := by omega
  have h63' : ¬ (9223372036854775807 < ((ln : Int) + (m : Int))) := by omega
  have h47 : (ln + m) * inf.bytes ≤ 140737488355328 := by
    have := Nat.mul_le_mul hroom hby
    omega
  have h48' : ¬ (281474976710656 < Builtin.nextslicecap (ln + m) cap * inf.bytes) := by have := growslice_fits hgrow h47; omega
  have hfo : (Builtin.firstCells inf.size ln (.slice ad ln cap)).run P w.drew = .ok olds.toArray w.drew := by
    by_cases h0 : ln = 0
    · subst h0
      have : olds = [] := List.eq_nil_of_length_eq_zero (by simpa using hlo)
      subst this
      cases ad with
      | none => exact run_firstCells_none w.drew inf.size 0 0 cap
      | some a => simp [Builtin.firstCells, loadCells, loadCellsFrom]
    · obtain ⟨a, rfl, hc⟩ := holds h0
      exact run_firstCells_some (P := P) w.drew inf.size ln a ln cap olds hlo (by simpa using hc)
  have hf : (Builtin.firstCells inf.size m (.slice ax m cx)).run P w.drew = .ok news.toArray w.drew := by
    by_cases h0 : m = 0
    · subst h0
      have : news = [] := List.eq_nil_of_length_eq_zero (by simpa using hln)
      subst this
      cases ax with
      | none => exact run_firstCells_none w.drew inf.size 0 0 cx
      | some a => simp [Builtin.firstCells, loadCells, loadCellsFrom]
    · obtain ⟨a, rfl, hc⟩ := hnews h0
      exact run_firstCells_some (P := P) w.drew inf.size m a m cx news hln (by simpa using hc)
  have hge := grownCap_ge w (ln + m) cap el
  have hcm : grownCap w (ln + m) cap el ≤ maxLen := grownCap_le_maxLen w (ln + m) cap el (by unfold maxLen; omega)
  refine ⟨olds.toArray ++ news.toArray ++ Builtin.zeroCells z.cells (grownCap w (ln + m) cap el - (ln + m)), grownCap w (ln + m) cap el, ?_, hge, hcm, ?_, ?_⟩
  · simp [Builtin.append_, run_underlying ht, sizeOf, typeInfo, zeroValue, hi, hz, Builtin.lenOf, hn, h63', h48', Question.forced, hf, hfo, newRow, grownCap]
    congr 2
    apply Array.ext'
    simp
  · simp only [Array.size_append, List.size_toArray, size_zeroCells, hzs, hlo, hln, ← Nat.add_mul]
    congr 1
    omega
  · simp only [Array.toList_append, List.append_assoc]
    rw [← List.append_assoc]
    have : (olds ++ news).length = (ln + m) * inf.size := by rw [List.length_append, hlo, hln, Nat.add_mul]
    rw [← this]
    exact List.take_left

theorem run_app0 {P : Program} {w : World} {t ty el : TypeId} {n : Nat} (ht : P.underlying t = some (.slice el)) (hs : szT P el = some n) {ad ax : Option Addr} {cx : Nat} :
    (Builtin.append_ #[t, t] ty #[.slice ad 0 0, .slice ax 0 cx]).run P w = .ok (.slice ad 0 0) w := by
  have hf : (Builtin.firstCells n 0 (.slice ax 0 cx)).run P w = .ok #[] w := by
    cases ax with
    | none => exact run_firstCells_none w n 0 0 cx
    | some a => simp [Builtin.firstCells, loadCells, loadCellsFrom]
  cases ad with
  | none => simp [Builtin.append_, run_underlying ht, run_size hs, Builtin.lenOf, hf]
  | some a => simp [Builtin.append_, run_underlying ht, run_size hs, Builtin.lenOf, hf, storeCells]
theorem run_app_room {P : Program} {w : World} {t ty el el' : TypeId} {n : Nat} (ht : P.underlying t = some (.slice el)) (hs : szT P el = some n) {g o ln cap m cx : Nat} {ax : Option Addr} {cur : Array Value} {fr : Nat × Nat} {news : List Value}
    (hg : w.heap[g]? = some (.cells cur el' fr)) (hfr : ∀ j, j < news.length → ¬ (fr.1 ≤ o + ln * n + j ∧ o + ln * n + j < fr.2)) (hfit : o + ln * n + news.length ≤ cur.size) (h1 : ∀ u ∈ news, u.oneCell' = true)
    (hln : news.length = m * n) (hnews : m ≠ 0 → ∃ a, ax = some a ∧ ∀ j u, news[j]? = some u → w.cell? (a.add j) = some u) (hroom : ln + m ≤ cap) :
    (Builtin.append_ #[t, t] ty #[.slice (some ⟨g, o, none⟩) ln cap, .slice ax m cx]).run P w = .ok (.slice (some ⟨g, o, none⟩) (ln + m) cap) (w.setRow g (splice cur (o + ln * n) news)) := by
  have hf : (Builtin.firstCells n m (.slice ax m cx)).run P w = .ok news.toArray w := by
    by_cases h0 : m = 0
    · subst h0
      have : news = [] := List.eq_nil_of_length_eq_zero (by simpa using hln)
      subst this
      cases ax with
      | none => exact run_firstCells_none w n 0 0 cx
      | some a => simp [Builtin.firstCells, loadCells, loadCellsFrom]
    · obtain ⟨a, rfl, hc⟩ := hnews h0
      exact run_firstCells_some (P := P) w n m a m cx news hln hc
  have hst := run_storeCells_gen P g (o + ln * n) el' fr news 0 cur w hg (by simpa using hfr) (by simpa using hfit) h1
  simp only [Nat.add_zero] at hst
  simp [Builtin.append_, run_underlying ht, run_size hs, Builtin.lenOf, hroom, hf, add_lit, hst]
theorem hop_app {P : Program} {F : Fns} {t el : TypeId} {inf : TypeInfo} {z : Value} {x y : Operand} {x' y' : Opd} (hx : okOpd x x' = true) (hy : okOpd y y' = true) (ht : P.underlying t = some (.slice el)) (hi : P.info? el = some inf) (hz : inf.zero = some z) (hzs : z.cells.size = inf.size) (hby : inf.bytes ≤ 2048) :
    HopOK P F (.call { callee := .builtin .append, args := #[x, y], argTypes := #[t, t] }) (.app inf.size x' y') := by
  intro φ H e a w base r op hop he hh hev hf h0
  have hx := opd_ok he hx
  have hy := opd_ok he hy
  have hs : szT P el = some inf.size := by simp [szT, hi]
  have hrunop : ∀ rv w', (Builtin.append_ #[t, t] op.type #[a.eval x, a.eval y]).run P w = .ok rv w' → (execOp a.eval op).run P w = .ok (.value rv) w' := by
    intro rv w' h
    simp [execOp, hop, resolve, invoke, builtin, h]
  simp only [HOp.ev] at hev
  obtain ⟨q, hq, hev⟩ := Option.bind_eq_some_iff.1 hev
  obtain ⟨ax, cx, news, hv, ha, hln, h1, hnews⟩ := app_src hh hy hq
  have hmr : maxRoom = 68719476736 := rfl
  /- new memory -/
  have grow : ∀ (ad : Option Addr) (ln cap : Nat) (olds : List Value) (cs : List C), a.eval x = .slice ad ln cap → All2 (VRc φ) cs olds → olds.length = ln * inf.size → (ln ≠ 0 → ∃ a, ad = some a ∧ ∀ j u, olds[j]? = some u → w.cell? (a.add j) = some u) → ln + q.1 ≤ maxRoom → cap < ln + q.1 → φ base = none →
      ∃ rv w', (execOp a.eval op).run P w = .ok (.value rv) w' ∧ ∃ φ', VRc φ' (.sl base 0 (ln + q.1) inf.size) rv ∧ OutOK φ H w base [.cells (cs ++ q.2) true] [] φ' w' := by
    intro ad ln cap olds cs hvx hao hlo holds hroom hgrow hfb
    obtain ⟨cur, ncap, hr, k1, k2, k3, k4⟩ := run_app (ty := op.type) (cx := cx) (w := w) ht hi hz hzs hby (ad := ad) (cap := cap) hlo holds hln hnews hroom hgrow
    refine ⟨_, _, hrunop _ _ (by rw [hvx, hv]; exact hr), φ.at base (0 + 1) ⟨w.drew.heap.size, 0, cur.size⟩, .inr ⟨⟨w.drew.heap.size, 0, cur.size⟩, ncap, by simp [Phi.at], by simp, k1, k2, by simp only; omega⟩, ?_⟩
    refine New.out hh (New.row (bs := []) (fun φ' hφ => ⟨olds ++ news, ?_, ?_⟩) w.drew (Fr.drew _ _)) (fun j hj => by simp at hj; subst hj; simpa using hfb)
    · rw [← k4]
      congr 1
      have e1 := hao.length
      have e2 := ha.length
      simp only [List.length_append, e1, e2, hlo, hln, Nat.add_mul]
    · refine (hao.append ha).mono fun i p hpi => ?_
      by_cases hi : i < base ∨ base + 1 ≤ i
      · rw [hφ i (by simpa using hi)]; exact hpi
      · rw [show i = base by omega, hfb] at hpi; cases hpi
  split at hev
  · rename_i i o ln sz' hm
    rw [hm] at hx
    split at hev
    · rename_i cs hb
      split at hev
      · rename_i hc
        obtain ⟨hsz, hol, hroom⟩ := hc
        injection hev with hev
        subst hev
        have hfb : φ base = none := by simpa using hf 0 (by simp)
        have h0 : H base = none := h0 (by simp)
        have hib : i ≠ base := fun e => by subst e; rw [hb] at h0; cases h0
        rcases hx with ⟨hl0, ad, hvx⟩ | ⟨p, cap, hp, hvx, hle, hcm, htot⟩
        · subst hl0
          by_cases hm0 : q.1 = 0
          · refine .inl ⟨.slice ad 0 0, w, hrunop _ _ (by rw [hvx, hv, hm0]; exact run_app0 ht hs), φ.none base 1, .inl ⟨by omega, ad, rfl⟩, OutOK.kill (New.out hh New.empties hf) (by simp; omega)⟩
          · obtain ⟨rv, w', hr, φ', h1, h2⟩ := grow ad 0 0 [] [] hvx trivial (by simp) (fun h => absurd rfl h) (by omega) (by omega) hfb
            refine .inl ⟨rv, w', hr, φ', h1, ?_⟩
            have e1 : (cs.drop o).take (0 * inf.size) = [] := by simp
            rw [e1]
            exact OutOK.kill h2 (by simp; omega)
        · subst hsz
          have hrd : readB H i o (ln * inf.size) = some ((cs.drop o).take (ln * inf.size)) := by simp [readB, hb, hol]
          obtain ⟨olds, hao, hlo, _, hcell⟩ := read_ok hh hrd hp
          by_cases hfit : ln + q.1 ≤ cap
          · obtain ⟨cur, t0, fr, k1, k2, k3, k4, k5⟩ := hh.blk i _ p hb hp
            have hmul : ln * inf.size + q.1 * inf.size ≤ cap * inf.size := by rw [← Nat.add_mul]; exact Nat.mul_le_mul_right _ hfit
            have hfit2 : p.o + o + ln * inf.size + news.length ≤ cur.size := by rw [hln]; omega
            have hr := run_app_room (P := P) (w := w) (ty := op.type) (cx := cx) ht hs (o := p.o + o) k1 (fun j hj => by have := k5 rfl (o + ln * inf.size + j) (by omega); rwa [← Nat.add_assoc, ← Nat.add_assoc] at this) hfit2 h1 hln hnews hfit
            refine .inl ⟨_, _, hrunop _ _ (by rw [hvx, hv]; exact hr), (fun j => if j = base then some ⟨p.b, p.o + o, p.tot - o⟩ else φ j), .inr ⟨⟨p.b, p.o + o, p.tot - o⟩, cap, by simp, rfl, hfit, hcm, by simp only; omega⟩, OutOK.inplace hh hb hp k1 (splice_size hfit2) hfb h0 ?_ fun j c hj => ?_⟩
            · have e1 := hao.length
              have e2 := ha.length
              simp only [List.length_append, e1, e2, hlo, hln]
              omega
            · rw [splice_get hfit2]
              have e1 := hao.length
              by_cases hj1 : j < ln * inf.size
              · rw [List.getElem?_append_left (by rw [e1, hlo]; exact hj1), List.getElem?_take, if_pos hj1, List.getElem?_drop] at hj
                obtain ⟨v, hv', hr⟩ := k4 (o + j) c hj
                refine ⟨v, ?_, hr⟩
                rw [if_neg (by omega), Nat.add_assoc]
                exact hv'
              · rw [List.getElem?_append_right (by rw [e1, hlo]; omega), e1, hlo] at hj
                obtain ⟨v, hv', hr⟩ := ha.get hj
                have hjl := (List.getElem?_eq_some_iff.1 hv').1
                refine ⟨v, ?_, hr⟩
                rw [if_pos (by omega), ← hv']
                congr 1; omega
          · obtain ⟨rv, w', hr, φ', h1, h2⟩ := grow _ ln cap olds _ hvx hao hlo (fun _ => ⟨_, rfl, fun j u hj => by rw [add_lit]; exact hcell j u hj⟩) hroom (by omega) hfb
            exact .inl ⟨rv, w', hr, φ', h1, OutOK.kill h2 (by simp; omega)⟩
      · cases hev
    · cases hev
  · rename_i hm
    rw [hm] at hx
    split at hev
    · rename_i hroom
      injection hev with hev
      subst hev
      obtain ⟨ad, hvx⟩ := hx
      have hfb : φ base = none := by simpa using hf 0 (by simp)
      by_cases hm0 : q.1 = 0
      · refine .inl ⟨.slice ad 0 0, w, hrunop _ _ (by rw [hvx, hv, hm0]; exact run_app0 ht hs), φ.none base 1, .inl ⟨hm0, ad, rfl⟩, New.out hh New.empties hf⟩
      · obtain ⟨rv, w', hr, φ', h1, h2⟩ := grow ad 0 0 [] [] hvx trivial (by simp) (fun h => absurd rfl h) (by omega) (by omega) hfb
        rw [Nat.zero_add] at h1
        exact .inl ⟨rv, w', hr, φ', h1, h2⟩
    · cases hev
  · cases hev
theorem bytes_ok {φ : Phi} (s : List UInt8) : All2 (VRc φ) (bytesC s) (s.map fun b => Value.int .u8 b.toNat) := by
  induction s with
  | nil => trivial
  | cons b s ih => exact ⟨rfl, ih⟩
theorem hop_s2b {P : Program} {F : Fns} {src dst el : TypeId} {x : Operand} {x' : Opd} (hx : okOpd x x' = true) (hu : (P.underlying src).isSome = true) (hd : P.underlying dst = some (.slice el)) (he' : P.underlying el = some (.int .u8)) :
    HopOK P F (.convert src dst x) (.s2b x') := by
  intro φ H e a w base r op hop he hh hev hf h0
  have hx := opd_ok he hx
  simp only [HOp.ev] at hev
  split at hev
  · rename_i s hm
    rw [hm] at hx
    have hv : a.eval x = .string ⟨s.toArray⟩ := hx
    split at hev
    · rename_i hl
      injection hev with hev
      subst hev
      have hmr : maxRoom = 68719476736 := rfl
      obtain ⟨u, hu⟩ := Option.isSome_iff_exists.1 hu
      have hr := Lib.run_convert_string_bytes (P := P) w src dst el ⟨s.toArray⟩ hu hd he'
      have hsz : (⟨s.toArray⟩ : ByteArray).size = s.length := by simp [ByteArray.size]
      rw [hsz] at hr
      have hge := grownCap_ge w s.length 0 el
      have hcm := grownCap_le_maxLen w s.length 0 el (by unfold maxLen; omega)
      have hbs : (Lib.bytesCells w el ⟨s.toArray⟩).size = grownCap w s.length 0 el := by
        simp [Lib.bytesCells, hsz]; omega
      have hfb : φ base = none := by simpa using hf 0 (by simp)
      have hold : ∀ k, k < w.heap.size → (Lib.bytesWorld w el ⟨s.toArray⟩).heap[k]? = w.heap[k]? := fun k hk => Lib.bytesWorld_at_old w el _ k hk
      have hle : Le φ (φ.at base (0 + 1) ⟨w.heap.size, 0, grownCap w s.length 0 el⟩) := by
        intro i p hpi
        unfold Phi.at
        by_cases hi : i = base
        · rw [hi, hfb] at hpi; cases hpi
        · rw [if_neg hi, if_neg (by omega)]; exact hpi
      refine .inl ⟨.slice (some ⟨w.heap.size, 0, none⟩) s.length (grownCap w s.length 0 el), Lib.bytesWorld w el ⟨s.toArray⟩, by simp only [execOp, hop, hv, Sem.run_bind, hr, Result.andThen_ok, Sem.run_pure], φ.at base (0 + 1) ⟨w.heap.size, 0, grownCap w s.length 0 el⟩, .inr ⟨⟨w.heap.size, 0, grownCap w s.length 0 el⟩, grownCap w s.length 0 el, by simp [Phi.at], by simp, hge, hcm, by simp⟩, ?_⟩
      refine New.out hh ⟨fun i hi => ?_, fun j b p hb hp => ?_, fun j k p q hjk hj hk hp hq => ?_, ⟨rfl, rfl, rfl, by rw [Lib.bytesWorld_size]; omega, fun k hk _ => hold k hk⟩⟩ hf
      · unfold Phi.at; simp at hi; rw [if_neg (by omega), if_neg (by omega)]
      · have hj0 : j = 0 := by have := (List.getElem?_eq_some_iff.1 hb).1; simpa using this
        subst hj0
        simp [Phi.at] at hb hp
        subst hb; subst hp
        refine ⟨⟨Lib.bytesCells w el ⟨s.toArray⟩, el, _, Lib.bytesWorld_at_new w el ⟨s.toArray⟩, by simp only [hbs]; omega, by simp only [bytesC, List.length_map]; omega, fun j c hj => ?_, fun _ j hj => ?_⟩, Nat.le_refl _⟩
        · have hjs : j < s.length := by have := (List.getElem?_eq_some_iff.1 hj).1; simpa [bytesC] using this
          obtain ⟨v, hv', hr⟩ := (bytes_ok (φ := φ.at base (0 + 1) ⟨w.heap.size, 0, grownCap w s.length 0 el⟩) s).get hj
          refine ⟨v, ?_, hr⟩
          rw [← hv']
          simp [Lib.bytesCells, Array.getElem?_append, hjs]
        · simp only [hbs] at hj ⊢; omega
      · simp at hj hk; omega
    · cases hev
  · cases hev

theorem push_list : ∀ (ns : List Int) (r : ByteArray), ns.foldl (fun r n => r.push (UInt8.ofNat n.toNat)) r = ⟨r.data ++ (ns.map fun n => UInt8.ofNat n.toNat).toArray⟩
  | [], r => by simp
  | n :: ns, r => by
    simp only [List.foldl_cons, push_list ns]
    apply ByteArray.ext
    simp [ByteArray.data_push]
theorem hop_b2s {P : Program} {F : Fns} {src dst el : TypeId} {x : Operand} {x' : Opd} (hx : okOpd x x' = true) (hs : P.underlying src = some (.slice el)) (he' : P.underlying el = some (.int .u8)) (hd : P.underlying dst = some .string) :
    HopOK P F (.convert src dst x) (.b2s x') := by
  intro φ H e a w base r op hop he hh hev hf h0
  have hx := opd_ok he hx
  have hrunop : ∀ u rv w', a.eval x = u → (∃ ad l c, u = .slice ad l c) → (Conv.bytesToString u).run P w = .ok rv w' → (execOp a.eval op).run P w = .ok (.value rv) w' := by
    intro u rv w' hu ⟨ad, l, c, hsl⟩ h
    subst hsl
    simp [execOp, hop, hu, convert, run_underlying hs, run_underlying hd, run_underlying he', h]
  simp only [HOp.ev] at hev
  split at hev
  · rename_i i o ln hm
    rw [hm] at hx
    obtain ⟨cs, hc, hev⟩ := Option.bind_eq_some_iff.1 hev
    split at hev
    · rename_i hall
      injection hev with hev
      subst hev
      rcases hx with ⟨h0, ad, hv⟩ | ⟨p, cap, hp, hv, _⟩
      · subst h0
        have hcs : cs = [] := by
          unfold readB at hc
          split at hc
          · split at hc
            · injection hc with hc; rw [← hc]; simp
            · cases hc
          · cases hc
        subst hcs
        refine .inl ⟨.string .empty, w, hrunop _ _ _ hv ⟨_, _, _, rfl⟩ ?_, φ, rfl, OutOK.same base hh⟩
        cases ad with
        | none => rfl
        | some ad => exact run_bytesToString (P := P) w ad 0 0 [] (by simp [loadCells, loadCellsFrom])
      · obtain ⟨vs, ha, hl, _, hcell⟩ := read_ok hh hc hp
        obtain ⟨ns, hns⟩ : ∃ ns : List Int, ns = cs.map fun c => match c with | .int _ n => n | _ => 0 := ⟨_, rfl⟩
        have hvs : vs = ns.map (Value.int .u8) := by
          rw [hns]
          clear hns hcell hl hc hf hev h0
          induction cs generalizing vs with
          | nil => cases vs with
            | nil => rfl
            | cons => exact ha.elim
          | cons c cs ih => cases vs with
            | nil => exact ha.elim
            | cons v vs =>
              simp only [List.all_cons, Bool.and_eq_true] at hall
              rw [ih hall.2 vs ha.2]
              simp only [List.map_cons]
              congr 1
              have h1 := hall.1
              split at h1
              · exact ha.1
              · cases h1
        have hload : (loadCells ⟨p.b, p.o + o, none⟩ ln).run P w = .ok (ns.map (Value.int .u8)).toArray w := by
          have := run_loadCells_list (P := P) w ⟨p.b, p.o + o, none⟩ vs fun j v hj => by rw [add_lit]; exact hcell j v hj
          rw [hl] at this
          rw [this, hvs]
        refine .inl ⟨_, w, hrunop _ _ _ hv ⟨_, _, _, rfl⟩ (run_bytesToString (P := P) w _ ln cap ns hload), φ, ?_, OutOK.same base hh⟩
        show _ = _
        rw [push_list]
        congr 1
        apply ByteArray.ext
        simp only [hns, List.map_map]
        show (#[] ++ _ : Array UInt8) = _
        rw [Array.empty_append]
        congr 1
        apply List.map_congr_left
        intro c hcm
        have := List.all_eq_true.1 hall c hcm
        split at this
        · rfl
        · cases this
    · cases hev
  · rename_i hm
    rw [hm] at hx
    injection hev with hev
    subst hev
    obtain ⟨ad, hv⟩ := hx
    refine .inl ⟨.string .empty, w, hrunop _ _ _ hv ⟨_, _, _, rfl⟩ ?_, φ, rfl, OutOK.same base hh⟩
    cases ad with
    | none => rfl
    | some ad => exact run_bytesToString (P := P) w ad 0 0 [] (by simp [loadCells, loadCellsFrom])
  · cases hev
end Go.Proofs.Ytenheijeahpbkaa.AM
