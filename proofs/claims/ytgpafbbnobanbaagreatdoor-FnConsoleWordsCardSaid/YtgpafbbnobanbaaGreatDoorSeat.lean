/- What the rows of this seat share. -/
import Derived.Test.YtgpafbbnobanbaaGreatDoorAmCode
import Derived.Test.YtgpafbbnobanbaaGreatDoorStrF
import Derived.Test.YtgpafbbnobanbaaGreatDoorPf
import Derived.Test.YtgpafbbnobanbaaGreatDoorPe
import Derived.Test.YtgpafbbnobanbaaGreatDoorAmE
import Derived.Test.YtgpafbbnobanbaaGreatDoorRows
namespace Go.Proofs.YtgpafbbnobanbaaGreatDoor
open Go Go.ChangeShapes Go.WideShapes Go.RowKit Go.WideElems
set_option maxRecDepth 100000
theorem Tryz.own : ownKnob Tryz.prog.godebug = none := by kernel_rfl
theorem AM.mv_fr {φ : AM.Phi} {H : AM.HF} {w w' : World} (h : AM.HeapOK φ H w) (hf : AM.Fr (fun _ => False) w w') : AM.Mv φ H w φ H w' := by
  have hn : AM.New φ w 0 [] φ w' := ⟨fun _ _ => rfl, fun j b p h => by simp at h, fun j k p q _ h => by simp at h, hf⟩
  have ho := hn.out h (fun j hj => by simp at hj)
  have := ho.mv
  rwa [AM.updH_nil] at this
theorem AM.fr_drew (w : World) (n : Nat) : AM.Fr (fun _ => False) w (w.drewN n) := ⟨rfl, rfl, rfl, Nat.le_refl _, fun _ _ _ => rfl⟩
theorem AM.fr_grow (w : World) (n : Nat) (os : Array Obj) : AM.Fr (fun _ => False) w (Go.Sort.grow (w.drewN n) os) := by
  refine ⟨rfl, rfl, rfl, ?_, fun k hk _ => ?_⟩
  · show w.heap.size ≤ (w.heap ++ os).size
    simp
  · show (w.heap ++ os)[k]? = w.heap[k]?
    rw [Array.getElem?_append_left hk]
theorem AM.tab_is {φ : AM.Phi} {H : AM.HF} {w : World} (h : AM.HeapOK φ H w) : Lib.TabIs Tryz.prog w "internal/strconv.uint64pow10" .u64 Lib.pow10Tab := by
  obtain ⟨t, fr, hh⟩ := h.tab.1 3 _ rfl
  have hg : Tryz.prog.globalNamed "internal/strconv.uint64pow10" = some 3 := by kernel_rfl
  unfold Lib.TabIs World.var?
  rw [hg]
  simp only [Option.bind_some]
  rw [hh]
theorem AM.tab_in {W : World} (h : Lib.TabIs Tryz.prog W "internal/strconv.uint64pow10" .u64 Lib.pow10Tab) : AM.TabIn W := by
  intro g cs hg
  have hg1 : (3, (Lib.pow10Tab.map fun z => Value.int .u64 z).toArray) = (g, cs) := Option.some.inj hg
  injection hg1 with e1 e2
  subst e1; subst e2
  have hn : Tryz.prog.globalNamed "internal/strconv.uint64pow10" = some 3 := by kernel_rfl
  unfold Lib.TabIs World.var? at h
  rw [hn] at h
  simp only [Option.bind_some] at h
  split at h
  · rename_i cs t fr hh
    injection h with h
    subst h
    exact ⟨t, fr, hh⟩
  · cases h
theorem AM.primOK : AM.PrimOK Tryz.prog AM.np := by
  intro f q h args hp res h' hr φ w vs hh ha
  unfold AM.np at h
  split at h
  · rename_i hf
    subst hf
    injection h with h
    subst h
    simp only at hr
    split at hr
    · rename_i s c
      injection hr with hr
      injection hr with hr1 hr2
      subst hr1; subst hr2
      match vs, ha with
      | [v1, v2], ⟨h1, h2, _⟩ =>
        have h1 : v1 = .string ⟨s.toArray⟩ := h1
        have h2 : v2 = .string ⟨[c].toArray⟩ := h2
        subst h1; subst h2
        right
        refine ⟨Go.MuLone.run_callFunc_enter Tryz.func49 (by kernel_rfl) rfl _ _, (Tryz.strings_Contains_one ⟨s.toArray⟩ c w).mono ?_⟩
        rintro e w' ⟨rfl, rfl⟩
        exact ⟨_, rfl, φ, fun _ _ => rfl, rfl, AM.Mv.refl hh⟩
    · cases hr
  · skip
    split at h
    · rename_i hf
      subst hf
      injection h with h
      subst h
      simp only at hr
      split at hr
      · rename_i s c
        split at hr
        · rename_i hl
          injection hr with hr
          injection hr with hr1 hr2
          subst hr1; subst hr2
          match vs, ha with
          | [v1, v2], ⟨h1, h2, _⟩ =>
            have h1 : v1 = .string ⟨s.toArray⟩ := h1
            have h2 : v2 = .string ⟨[c].toArray⟩ := h2
            subst h1; subst h2
            right
            refine ⟨Go.MuLone.run_callFunc_enter Tryz.func212 (by kernel_rfl) rfl _ _, (Tryz.strings_Cut_one ⟨s.toArray⟩ c w (by rw [Lib.size_eq]; exact hl)).mono ?_⟩
            rintro e w' ⟨rfl, n, rfl⟩
            exact ⟨_, rfl, φ, fun _ _ => rfl, ⟨_, rfl, rfl, rfl, rfl, trivial⟩, AM.mv_fr hh (AM.fr_drew w n)⟩
        · cases hr
      · cases hr
    · skip
      split at h
      · rename_i hf
        subst hf
        injection h with h
        subst h
        simp only at hr
        split at hr
        · rename_i s p
          injection hr with hr
          injection hr with hr1 hr2
          subst hr1; subst hr2
          match vs, ha with
          | [v1, v2], ⟨h1, h2, _⟩ =>
            have h1 : v1 = .string ⟨s.toArray⟩ := h1
            have h2 : v2 = .string ⟨p.toArray⟩ := h2
            subst h1; subst h2
            right
            refine ⟨Go.MuLone.run_callFunc_enter Tryz.func214 (by kernel_rfl) rfl _ _, (Tryz.strings_CutPrefix ⟨s.toArray⟩ ⟨p.toArray⟩ w).mono ?_⟩
            rintro e w' ⟨rfl, rfl⟩
            exact ⟨_, rfl, φ, fun _ _ => rfl, ⟨_, rfl, rfl, rfl, trivial⟩, AM.Mv.refl hh⟩
        · cases hr
      · skip
        split at h
        · rename_i hf
          subst hf
          injection h with h
          subst h
          simp only at hr
          split at hr
          · rename_i s p
            split at hr
            · rename_i hl
              injection hr with hr
              injection hr with hr1 hr2
              subst hr1; subst hr2
              match vs, ha with
              | [v1, v2], ⟨h1, h2, _⟩ =>
                have h1 : v1 = .string ⟨s.toArray⟩ := h1
                have h2 : v2 = .string ⟨p.toArray⟩ := h2
                subst h1; subst h2
                right
                refine ⟨Go.MuLone.run_callFunc_enter Tryz.func142 (by kernel_rfl) rfl _ _, (Tryz.strings_HasSuffix ⟨s.toArray⟩ ⟨p.toArray⟩ w (by rw [Lib.size_eq]; exact hl)).mono ?_⟩
                rintro e w' ⟨rfl, rfl⟩
                exact ⟨_, rfl, φ, fun _ _ => rfl, rfl, AM.Mv.refl hh⟩
            · cases hr
          · cases hr
        · skip
          split at h
          · rename_i hf
            subst hf
            injection h with h
            subst h
            simp only at hr
            split at hr
            · rename_i n
              split at hr
              · rename_i hl
                injection hr with hr
                injection hr with hr1 hr2
                subst hr1; subst hr2
                match vs, ha with
                | [v1], ⟨h1, _⟩ =>
                  have h1 : v1 = .int .i64 n := h1
                  subst h1
                  right
                  refine ⟨Go.MuLone.run_callFunc_enter Tryz.func82 (by kernel_rfl) rfl _ _, (Tryz.strconv_Itoa n hl.1 hl.2 w (AM.tab_is hh)).mono ?_⟩
                  rintro e w' ⟨rfl, k, os, rfl⟩
                  exact ⟨_, rfl, φ, fun _ _ => rfl, rfl, AM.mv_fr hh (AM.fr_grow w k os)⟩
              · cases hr
            · cases hr
          · skip
            split at h
            · rename_i hf
              subst hf
              injection h with h
              subst h
              simp only at hr
              split at hr
              · rename_i s c
                split at hr
                · rename_i hl
                  injection hr with hr
                  injection hr with hr1 hr2
                  subst hr1; subst hr2
                  match vs, ha with
                  | [v1, v2], ⟨h1, h2, _⟩ =>
                    have h1 : v1 = .string ⟨s.toArray⟩ := h1
                    have h2 : v2 = .string ⟨[c].toArray⟩ := h2
                    subst h1; subst h2
                    right
                    refine ⟨Go.MuLone.run_callFunc_enter Tryz.func50 (by kernel_rfl) rfl _ _, (Tryz.strings_Split_one ⟨s.toArray⟩ c w (by rw [Lib.size_eq]; exact hl)).mono ?_⟩
                    rintro e w' ⟨rfl, rfl⟩
                    obtain ⟨φ', ho, hv, hm⟩ := AM.split_ok hh c s hl _
                    exact ⟨_, rfl, φ', ho, hv, hm⟩
                · cases hr
              · cases hr
            · skip
              split at h
              · rename_i hf
                subst hf
                injection h with h
                subst h
                simp only at hr
                split at hr
                · rename_i i o n sep
                  split at hr
                  · rename_i cs own hb
                    split at hr
                    · rename_i hl
                      injection hr with hr
                      injection hr with hr1 hr2
                      subst hr1; subst hr2
                      obtain ⟨hl1, hl2, hl3, hl4⟩ := hl
                      match vs, ha with
                      | [v1, v2], ⟨h1, h2, _⟩ =>
                        have h2 : v2 = .string ⟨sep.toArray⟩ := h2
                        subst h2
                        right
                        have hlen : (((cs.drop o).take n).map fun c => (⟨(AM.strC c).toArray⟩ : ByteArray)).length = n := by simp; omega
                        have hmap : ((((cs.drop o).take n).map fun c => (⟨(AM.strC c).toArray⟩ : ByteArray)).map (·.data.toList)) = ((cs.drop o).take n).map AM.strC := by rw [List.map_map]; rfl
                        rcases AM.join_args hh hb hl1 hl3 h1 with ⟨rfl, a, rfl⟩ | ⟨bk, off, c, rfl, hc, hbk, hcells⟩
                        · refine ⟨Go.MuLone.run_callFunc_enter Tryz.func62 (by kernel_rfl) rfl _ _, (Tryz.strings_Join_none a 0 ⟨sep.toArray⟩ w).mono ?_⟩
                          rintro e w' ⟨rfl, rfl⟩
                          exact ⟨_, rfl, φ, fun _ _ => rfl, (by rw [List.take_zero]; rfl), AM.Mv.refl hh⟩
                        · have hJ := Tryz.strings_Join bk off c (((cs.drop o).take n).map fun c => (⟨(AM.strC c).toArray⟩ : ByteArray)) ⟨sep.toArray⟩ w hcells hbk (by rw [hlen]; exact hl2) (by rw [hlen]; exact hc) (by rw [hmap]; exact hl4)
                          rw [hlen, hmap] at hJ
                          refine ⟨Go.MuLone.run_callFunc_enter Tryz.func62 (by kernel_rfl) rfl _ _, hJ.mono ?_⟩
                          rintro e w' ⟨rfl, hbel⟩
                          exact ⟨_, rfl, φ, fun _ _ => rfl, rfl, AM.mv_fr hh ⟨hbel.os, hbel.tape, hbel.output, hbel.size, fun k hk _ => hbel.block k hk⟩⟩
                    · cases hr
                  · cases hr
                · cases hr
              · skip
                cases h
theorem AM.fnOK : AM.FnOK Tryz.prog (AM.fnI AM.pr AM.np) := AM.fnI_ok AM.mixed AM.pr_ok AM.primOK
theorem Tryz.laid : laidOutB Tryz.prog = true := by kernel_rfl
theorem Tryz.rowed : mapsRowed Tryz.prog = true := by kernel_rfl
def spC : Char := Char.ofNat 32
def joinW : List (List Char) → List Char
  | [] => []
  | [w] => w
  | w :: v :: ws => w ++ spC :: joinW (v :: ws)
theorem words_one : ∀ (w : List Char), (w.all fun c => c != spC) = true → wordsSigns w = [w]
  | [], _ => rfl
  | c :: w, h => by
    simp only [List.all_cons, Bool.and_eq_true, bne_iff_ne] at h
    have ih := words_one w (by simpa using h.2)
    have hc : c ≠ Char.ofNat 32 := h.1
    unfold wordsSigns
    split
    · rename_i e; cases e
    · rename_i e; injection e with e1 e2; exact absurd e1 hc
    · rename_i c' r' _ e
      injection e with e1 e2
      subst e1; subst e2
      rw [ih]
theorem words_cons : ∀ (w r : List Char), (w.all fun c => c != spC) = true → wordsSigns (w ++ spC :: r) = w :: wordsSigns r
  | [], r, _ => rfl
  | c :: w, r, h => by
    simp only [List.all_cons, Bool.and_eq_true, bne_iff_ne] at h
    have ih := words_cons w r (by simpa using h.2)
    have hc : c ≠ Char.ofNat 32 := h.1
    rw [List.cons_append]
    conv => lhs; unfold wordsSigns
    split
    · rename_i e; cases e
    · rename_i e; injection e with e1 e2; exact absurd e1 hc
    · rename_i c' r' _ e
      injection e with e1 e2
      subst e1; subst e2
      rw [ih]
theorem words_join : ∀ (ws : List (List Char)), ws ≠ [] → (ws.all fun w => w.all fun c => c != spC) = true → wordsSigns (joinW ws) = ws
  | [], h, _ => absurd rfl h
  | [w], _, h => by
    simp only [List.all_cons, List.all_nil, Bool.and_true] at h
    exact words_one w h
  | w :: v :: ws, _, h => by
    rw [List.all_cons, Bool.and_eq_true] at h
    rw [joinW, words_cons w _ h.1, words_join (v :: ws) (by simp) h.2]
def ioHead : List (List Char) := [[104, 97, 114, 110, 101, 115, 115], [49, 101, 54, 54, 51, 101, 102, 98, 100, 99, 100, 51, 56, 48, 53, 54, 97, 54, 51, 52, 97, 102, 100, 99, 50, 98, 57, 57, 50, 98, 97, 98, 48, 97, 101, 56, 51, 49, 55, 49, 101, 97, 55, 98, 51, 54, 52, 55, 100, 53, 51, 97, 57, 48, 99, 49, 49, 50, 56, 50, 55, 55, 57, 50]].map (·.map Char.ofNat)
def ioWords : List (List Char) := [[99, 117, 116], [97, 116], [108, 111, 111, 112, 46, 101, 120, 97, 109, 112, 108, 101, 47, 103, 48, 49, 50, 49, 53, 47, 108, 97, 119, 115, 46, 70, 110, 67, 111, 110, 115, 111, 108, 101, 87, 111, 114, 100, 115]].map (·.map Char.ofNat)
theorem io_str : Tryz.prog.initOrder = String.ofList (joinW (ioHead ++ ioWords)) := by kernel_rfl
theorem io_clean : ((ioHead ++ ioWords).all fun w => w.all fun c => c != spC) = true := by kernel_rfl
theorem io_list : wordsSigns Tryz.prog.initOrder.toList = ioHead ++ ioWords := by
  rw [io_str, String.toList_ofList]
  exact words_join _ (by simp [ioWords]) io_clean
theorem io_words : behindMainWord (wordsSigns Tryz.prog.initOrder.toList) = ioWords := by
  rw [io_list]
  kernel_rfl
def ioRest : List (List Char) := ioWords.drop 1
def cutW : List Char := [99, 117, 116].map Char.ofNat
theorem io_split : ioWords = cutW :: ioRest := by kernel_rfl
theorem lifts_io : stripLifts liftWords (cutW :: ioRest) = ([], cutW :: ioRest) := by kernel_rfl
theorem Tryz.later : Tryz.prog.laysLater = false := by kernel_rfl
theorem Tryz.reflect : Tryz.prog.bearsReflect = false := by kernel_rfl
theorem Tryz.door : Tryz.prog.doorFits [] = true := by kernel_rfl
theorem cutW_eq : cutW = "cut".toList := by kernel_rfl
theorem make_of {P : Program} {r : List (List Char)} (h : behindMainWord (wordsSigns P.initOrder.toList) = "cut".toList :: r) : P.make = some Make.cut := by
  unfold Program.make
  rw [h]
  rfl
theorem enter_of {P : Program} {r : List (List Char)} (h : behindMainWord (wordsSigns P.initOrder.toList) = "cut".toList :: r) (h2 : stripLifts liftWords ("cut".toList :: r) = ([], "cut".toList :: r)) (h3 : P.laysLater = false) (h4 : P.bearsReflect = false) (h5 : P.doorFits [] = true) : P.mayEnter = true := by
  unfold Program.mayEnter
  rw [h]
  simp only
  rw [h2, h3, h4, h5]
  rfl
theorem heads_of {P : Program} {r : List (List Char)} (h : behindMainWord (wordsSigns P.initOrder.toList) = "cut".toList :: r) (h2 : stripLifts liftWords ("cut".toList :: r) = ([], "cut".toList :: r)) : P.headLifts = [] := by
  unfold Program.headLifts
  rw [h, h2]
  exact ite_self _
theorem lifts_of {P : Program} {r : List (List Char)} (h : behindMainWord (wordsSigns P.initOrder.toList) = "cut".toList :: r) (h2 : P.headLifts = []) : P.liftsFinal = false := by
  unfold Program.liftsFinal
  rw [h2, h]
  rfl
theorem io_cut : behindMainWord (wordsSigns Tryz.prog.initOrder.toList) = "cut".toList :: ioRest := by rw [io_words, io_split, cutW_eq]
theorem strip_cut : stripLifts liftWords ("cut".toList :: ioRest) = ([], "cut".toList :: ioRest) := by rw [← cutW_eq]; exact lifts_io
theorem Tryz.enter : Tryz.prog.mayEnter = true := enter_of io_cut strip_cut Tryz.later Tryz.reflect Tryz.door
theorem Tryz.made : Tryz.prog.make = some Make.cut := make_of io_cut
theorem Tryz.lifts : Tryz.prog.liftsFinal = false := lifts_of io_cut (heads_of io_cut strip_cut)
theorem Tryz.heard : Tryz.prog.stopsHeard = true := by kernel_rfl
end Go.Proofs.YtgpafbbnobanbaaGreatDoor
