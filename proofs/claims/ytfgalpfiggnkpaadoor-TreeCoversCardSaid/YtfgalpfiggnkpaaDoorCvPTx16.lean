/- What treeCovers_card uses of the printed words and contracts. -/
import Derived.Test.YtfgalpfiggnkpaaDoorCvPTx0
import Derived.Test.YtfgalpfiggnkpaaDoorCvPTx1
import Derived.Test.YtfgalpfiggnkpaaDoorCvPTx3
import Derived.Test.YtfgalpfiggnkpaaDoorCvPTx7
import Derived.Test.YtfgalpfiggnkpaaDoorCvPTx8
import Derived.Test.YtfgalpfiggnkpaaDoorCvPTx12
namespace Go.Proofs.YtfgalpfiggnkpaaDoor.PT
open Go.RowKit Go.Proofs.YtfgalpfiggnkpaaDoorW.PrintWords Go.Proofs.YtfgalpfiggnkpaaDoorW.PrintLast Go.Proofs.YtfgalpfiggnkpaaDoorW.PrintMore
attribute [local go_sem] max2_int min2_int max_two min_two max_three min_three max_four min_four   -- for this text's walks alone
set_option linter.unusedVariables false
set_option linter.unusedSimpArgs false
mutual
def phratrylaw08_TreeCovers.j0 : Nat → Int → Int → Bool → List (S45) → Option (Bool)
  | 0, _, _, _, _ => none
  | k + 1, x1, x2, x25, x374000 => if x25 = true then ((phratrylaw08_alive.f k).bind fun t380 => (some t380)) else ((tree_Resolution.f x374000 x1).bind fun bt381 => (if bt381.2 = 0 then (phratrylaw08_TreeCovers.l0 k x1 x2 bt381.1 0 x374000) else (phratrylaw08_TreeCovers.j2 k x2 x374000)))
def phratrylaw08_TreeCovers.j2 : Nat → Int → List (S45) → Option (Bool)
  | 0, _, _ => none
  | k + 1, x2, x374000 => (tree_Targets.f x374000 x2 ([] : List Int)).bind fun bt391 => (if bt391.2 = 0 then (phratrylaw08_TreeCovers.l1 k x2 bt391.1 ([] : List Int) 0 x374000) else ((phratrylaw08_alive.f k).bind fun t395 => (some t395)))
def phratrylaw08_TreeCovers.l1 : Nat → Int → List (List Int) → List Int → Int → List (S45) → Option (Bool)
  | 0, _, _, _, _, _ => none
  | k + 1, x2, x11, x13, x14, x374000 => if x14 < (x11.length : Int) then (if 0 ≤ x14 then (if x13.length + (rd_L1 x11 x14).length < 17592186044416 then (phratrylaw08_TreeCovers.l1 k x2 x11 (x13 ++ (rd_L1 x11 x14)) (wrap64 (x14 + 1)) x374000) else (none)) else (none)) else (phratrylaw08_TreeCovers.l2 k x2 x13 0 x374000)
def phratrylaw08_TreeCovers.l2 : Nat → Int → List Int → Int → List (S45) → Option (Bool)
  | 0, _, _, _, _ => none
  | k + 1, x2, x13, x15, x374000 => (tree_Size.f x374000).bind fun t400 => (if x15 < t400 then (if x15 = x2 then (if 0 ≤ (wrap64 (2 * x15)) then (if (wrap64 (2 * x15)) < (x374000.length : Int) then (if ((rd_T45 x374000 (wrap64 (2 * x15))).f0) > 0 then ((phratrylaw08_names.f x374000 x13 x15).bind fun t403 => (if t403 = 0 then (phratrylaw08_TreeCovers.l2 k x2 x13 (wrap64 (x15 + 1)) x374000) else (some false))) else (phratrylaw08_TreeCovers.l2 k x2 x13 (wrap64 (x15 + 1)) x374000)) else (none)) else (none)) else (if 0 ≤ (wrap64 (2 * x15)) then (if (wrap64 (2 * x15)) < (x374000.length : Int) then (if ((rd_T45 x374000 (wrap64 (2 * x15))).f0) > 0 then ((phratrylaw08_names.f x374000 x13 x15).bind fun t405 => (if t405 = 1 then (phratrylaw08_TreeCovers.l2 k x2 x13 (wrap64 (x15 + 1)) x374000) else (some false))) else (phratrylaw08_TreeCovers.l2 k x2 x13 (wrap64 (x15 + 1)) x374000)) else (none)) else (none))) else ((phratrylaw08_alive.f k).bind fun t401 => (some t401)))
def phratrylaw08_TreeCovers.l0 : Nat → Int → Int → List Int → Int → List (S45) → Option (Bool)
  | 0, _, _, _, _, _ => none
  | k + 1, x1, x2, x7, x9, x374000 => (tree_Size.f x374000).bind fun t385 => (if x9 < t385 then ((phratryref02_Within.f k (wrap64 (2 * x9)) x1).bind fun t386 => (if t386 = true then (if 0 ≤ (wrap64 (2 * x9)) then (if (wrap64 (2 * x9)) < (x374000.length : Int) then (if ((rd_T45 x374000 (wrap64 (2 * x9))).f0) > 0 then ((phratrylaw08_names.f x374000 x7 x9).bind fun t388 => (if t388 = 1 then (phratrylaw08_TreeCovers.l0 k x1 x2 x7 (wrap64 (x9 + 1)) x374000) else (some false))) else (phratrylaw08_TreeCovers.l0 k x1 x2 x7 (wrap64 (x9 + 1)) x374000)) else (none)) else (none)) else (if 0 ≤ (wrap64 (2 * x9)) then (if (wrap64 (2 * x9)) < (x374000.length : Int) then (if ((rd_T45 x374000 (wrap64 (2 * x9))).f0) > 0 then ((phratrylaw08_names.f x374000 x7 x9).bind fun t390 => (if t390 = 0 then (phratrylaw08_TreeCovers.l0 k x1 x2 x7 (wrap64 (x9 + 1)) x374000) else (some false))) else (phratrylaw08_TreeCovers.l0 k x1 x2 x7 (wrap64 (x9 + 1)) x374000)) else (none)) else (none)))) else (phratrylaw08_TreeCovers.j2 k x2 x374000))
end
def phratrylaw08_TreeCovers.f (k : Nat) (l0_0 : List (S45)) (a1 : Int) (a2 : Int) : Option (Bool) := (phratrylaw01_TreeSize.f k l0_0).bind fun t374 => ((phratrylaw01_Beyond.f k (([t374] : List Int))).bind fun t378 => (if t378 = true then (phratrylaw08_TreeCovers.j0 k a1 a2 true l0_0) else ((tree_Check.f l0_0).bind fun t379 => (phratrylaw08_TreeCovers.j0 k a1 a2 (t379 != 0) l0_0))))
theorem phratrylaw08_TreeCovers.mono_l : ∀ k, (∀ y0 y1 y2 y3, LeO (phratrylaw08_TreeCovers.j0 k y0 y1 y2 y3) (phratrylaw08_TreeCovers.j0 (k + 1) y0 y1 y2 y3)) ∧ (∀ y0 y1, LeO (phratrylaw08_TreeCovers.j2 k y0 y1) (phratrylaw08_TreeCovers.j2 (k + 1) y0 y1)) ∧ (∀ y0 y1 y2 y3 y4, LeO (phratrylaw08_TreeCovers.l1 k y0 y1 y2 y3 y4) (phratrylaw08_TreeCovers.l1 (k + 1) y0 y1 y2 y3 y4)) ∧ (∀ y0 y1 y2 y3, LeO (phratrylaw08_TreeCovers.l2 k y0 y1 y2 y3) (phratrylaw08_TreeCovers.l2 (k + 1) y0 y1 y2 y3)) ∧ (∀ y0 y1 y2 y3 y4, LeO (phratrylaw08_TreeCovers.l0 k y0 y1 y2 y3 y4) (phratrylaw08_TreeCovers.l0 (k + 1) y0 y1 y2 y3 y4))
  | 0 => ⟨fun _ _ _ _ r h => by simp [phratrylaw08_TreeCovers.j0] at h, fun _ _ r h => by simp [phratrylaw08_TreeCovers.j2] at h, fun _ _ _ _ _ r h => by simp [phratrylaw08_TreeCovers.l1] at h, fun _ _ _ _ r h => by simp [phratrylaw08_TreeCovers.l2] at h, fun _ _ _ _ _ r h => by simp [phratrylaw08_TreeCovers.l0] at h⟩
  | k + 1 => by
    obtain ⟨ih0, ih1, ih2, ih3, ih4⟩ := phratrylaw08_TreeCovers.mono_l k
    refine ⟨?_, ?_, ?_, ?_, ?_⟩
    · intro y0 y1 y2 y3
      unfold phratrylaw08_TreeCovers.j0
      repeat' first
      | (with_reducible exact ih0 _ _ _ _)
      | (with_reducible exact ih1 _ _)
      | (with_reducible exact ih2 _ _ _ _ _)
      | (with_reducible exact ih3 _ _ _ _)
      | (with_reducible exact ih4 _ _ _ _ _)
      | (with_reducible exact phratrylaw01_Beyond.mono _ _)
      | (with_reducible exact phratrylaw01_TreeSize.mono _ _)
      | (with_reducible exact phratrylaw08_alive.mono _)
      | (with_reducible exact phratryref02_Within.mono _ _ _)
      | (with_reducible exact LeO.refl _)
      | (with_reducible exact LeO.none _)
      | (with_reducible refine LeO.ite ?_ ?_)
      | (with_reducible refine LeO.bind ?_ (fun _ => ?_))
      | exact ih0 _ _ _ _
      | exact ih1 _ _
      | exact ih2 _ _ _ _ _
      | exact ih3 _ _ _ _
      | exact ih4 _ _ _ _ _
      | exact phratrylaw01_Beyond.mono _ _
      | exact phratrylaw01_TreeSize.mono _ _
      | exact phratrylaw08_alive.mono _
      | exact phratryref02_Within.mono _ _ _
      | exact LeO.none _
      | refine LeO.ite ?_ ?_
      | refine LeO.bind ?_ (fun _ => ?_)
    · intro y0 y1
      unfold phratrylaw08_TreeCovers.j2
      repeat' first
      | (with_reducible exact ih0 _ _ _ _)
      | (with_reducible exact ih1 _ _)
      | (with_reducible exact ih2 _ _ _ _ _)
      | (with_reducible exact ih3 _ _ _ _)
      | (with_reducible exact ih4 _ _ _ _ _)
      | (with_reducible exact phratrylaw01_Beyond.mono _ _)
      | (with_reducible exact phratrylaw01_TreeSize.mono _ _)
      | (with_reducible exact phratrylaw08_alive.mono _)
      | (with_reducible exact phratryref02_Within.mono _ _ _)
      | (with_reducible exact LeO.refl _)
      | (with_reducible exact LeO.none _)
      | (with_reducible refine LeO.ite ?_ ?_)
      | (with_reducible refine LeO.bind ?_ (fun _ => ?_))
      | exact ih0 _ _ _ _
      | exact ih1 _ _
      | exact ih2 _ _ _ _ _
      | exact ih3 _ _ _ _
      | exact ih4 _ _ _ _ _
      | exact phratrylaw01_Beyond.mono _ _
      | exact phratrylaw01_TreeSize.mono _ _
      | exact phratrylaw08_alive.mono _
      | exact phratryref02_Within.mono _ _ _
      | exact LeO.none _
      | refine LeO.ite ?_ ?_
      | refine LeO.bind ?_ (fun _ => ?_)
    · intro y0 y1 y2 y3 y4
      unfold phratrylaw08_TreeCovers.l1
      repeat' first
      | (with_reducible exact ih0 _ _ _ _)
      | (with_reducible exact ih1 _ _)
      | (with_reducible exact ih2 _ _ _ _ _)
      | (with_reducible exact ih3 _ _ _ _)
      | (with_reducible exact ih4 _ _ _ _ _)
      | (with_reducible exact phratrylaw01_Beyond.mono _ _)
      | (with_reducible exact phratrylaw01_TreeSize.mono _ _)
      | (with_reducible exact phratrylaw08_alive.mono _)
      | (with_reducible exact phratryref02_Within.mono _ _ _)
      | (with_reducible exact LeO.refl _)
      | (with_reducible exact LeO.none _)
      | (with_reducible refine LeO.ite ?_ ?_)
      | (with_reducible refine LeO.bind ?_ (fun _ => ?_))
      | exact ih0 _ _ _ _
      | exact ih1 _ _
      | exact ih2 _ _ _ _ _
      | exact ih3 _ _ _ _
      | exact ih4 _ _ _ _ _
      | exact phratrylaw01_Beyond.mono _ _
      | exact phratrylaw01_TreeSize.mono _ _
      | exact phratrylaw08_alive.mono _
      | exact phratryref02_Within.mono _ _ _
      | exact LeO.none _
      | refine LeO.ite ?_ ?_
      | refine LeO.bind ?_ (fun _ => ?_)
    · intro y0 y1 y2 y3
      unfold phratrylaw08_TreeCovers.l2
      repeat' first
      | (with_reducible exact ih0 _ _ _ _)
      | (with_reducible exact ih1 _ _)
      | (with_reducible exact ih2 _ _ _ _ _)
      | (with_reducible exact ih3 _ _ _ _)
      | (with_reducible exact ih4 _ _ _ _ _)
      | (with_reducible exact phratrylaw01_Beyond.mono _ _)
      | (with_reducible exact phratrylaw01_TreeSize.mono _ _)
      | (with_reducible exact phratrylaw08_alive.mono _)
      | (with_reducible exact phratryref02_Within.mono _ _ _)
      | (with_reducible exact LeO.refl _)
      | (with_reducible exact LeO.none _)
      | (with_reducible refine LeO.ite ?_ ?_)
      | (with_reducible refine LeO.bind ?_ (fun _ => ?_))
      | exact ih0 _ _ _ _
      | exact ih1 _ _
      | exact ih2 _ _ _ _ _
      | exact ih3 _ _ _ _
      | exact ih4 _ _ _ _ _
      | exact phratrylaw01_Beyond.mono _ _
      | exact phratrylaw01_TreeSize.mono _ _
      | exact phratrylaw08_alive.mono _
      | exact phratryref02_Within.mono _ _ _
      | exact LeO.none _
      | refine LeO.ite ?_ ?_
      | refine LeO.bind ?_ (fun _ => ?_)
    · intro y0 y1 y2 y3 y4
      unfold phratrylaw08_TreeCovers.l0
      repeat' first
      | (with_reducible exact ih0 _ _ _ _)
      | (with_reducible exact ih1 _ _)
      | (with_reducible exact ih2 _ _ _ _ _)
      | (with_reducible exact ih3 _ _ _ _)
      | (with_reducible exact ih4 _ _ _ _ _)
      | (with_reducible exact phratrylaw01_Beyond.mono _ _)
      | (with_reducible exact phratrylaw01_TreeSize.mono _ _)
      | (with_reducible exact phratrylaw08_alive.mono _)
      | (with_reducible exact phratryref02_Within.mono _ _ _)
      | (with_reducible exact LeO.refl _)
      | (with_reducible exact LeO.none _)
      | (with_reducible refine LeO.ite ?_ ?_)
      | (with_reducible refine LeO.bind ?_ (fun _ => ?_))
      | exact ih0 _ _ _ _
      | exact ih1 _ _
      | exact ih2 _ _ _ _ _
      | exact ih3 _ _ _ _
      | exact ih4 _ _ _ _ _
      | exact phratrylaw01_Beyond.mono _ _
      | exact phratrylaw01_TreeSize.mono _ _
      | exact phratrylaw08_alive.mono _
      | exact phratryref02_Within.mono _ _ _
      | exact LeO.none _
      | refine LeO.ite ?_ ?_
      | refine LeO.bind ?_ (fun _ => ?_)
theorem phratrylaw08_TreeCovers.mono : ∀ a0 a1 a2 k, LeO (phratrylaw08_TreeCovers.f k a0 a1 a2) (phratrylaw08_TreeCovers.f (k + 1) a0 a1 a2) := by
  intro a0 a1 a2 k
  obtain ⟨ih0, ih1, ih2, ih3, ih4⟩ := phratrylaw08_TreeCovers.mono_l k
  unfold phratrylaw08_TreeCovers.f
  repeat' first
      | (with_reducible exact ih0 _ _ _ _)
      | (with_reducible exact ih1 _ _)
      | (with_reducible exact ih2 _ _ _ _ _)
      | (with_reducible exact ih3 _ _ _ _)
      | (with_reducible exact ih4 _ _ _ _ _)
      | (with_reducible exact phratrylaw01_Beyond.mono _ _)
      | (with_reducible exact phratrylaw01_TreeSize.mono _ _)
      | (with_reducible exact phratrylaw08_alive.mono _)
      | (with_reducible exact phratryref02_Within.mono _ _ _)
      | (with_reducible exact LeO.refl _)
      | (with_reducible exact LeO.none _)
      | (with_reducible refine LeO.ite ?_ ?_)
      | (with_reducible refine LeO.bind ?_ (fun _ => ?_))
      | exact ih0 _ _ _ _
      | exact ih1 _ _
      | exact ih2 _ _ _ _ _
      | exact ih3 _ _ _ _
      | exact ih4 _ _ _ _ _
      | exact phratrylaw01_Beyond.mono _ _
      | exact phratrylaw01_TreeSize.mono _ _
      | exact phratrylaw08_alive.mono _
      | exact phratryref02_Within.mono _ _ _
      | exact LeO.none _
      | refine LeO.ite ?_ ?_
      | refine LeO.bind ?_ (fun _ => ?_)
set_option maxHeartbeats 8000000 in
set_option maxRecDepth 100000 in
theorem phratrylaw08_TreeCovers.calls (k : Nat) (A0_0 : Option Addr) (c0_0 : Nat) (l0_0 : List (S45)) (a1 : Int) (a2 : Int) (r : Bool) (w : World) (hr0_0 : Kd.C k45 w A0_0 l0_0.length l0_0) (hc0_0 : l0_0.length ≤ c0_0) (hT : TabG w) (h : phratrylaw08_TreeCovers.f k l0_0 a1 a2 = some r) :
    Calls Tryd.prog 6 #[.agg #[.slice A0_0 l0_0.length c0_0], .int .i64 a1, .int .i64 a2] w fun e w' => e = .returned (.bool r) ∧ Below w.heap.size w w' := by
  have hu24 := Tryd.underlying24
  have HR0_0 := Aside0.mk hr0_0
  have HC0_0 := Aside0.mk hc0_0
  clear hr0_0 hc0_0
  have HB := Aside0.mk (Below.refl w.heap.size w)
  have HT := Aside0.mk hT
  clear hT
  have H : ((phratrylaw01_TreeSize.f k l0_0).bind fun t374 => ((phratrylaw01_Beyond.f k (([t374] : List Int))).bind fun t378 => (if t378 = true then (phratrylaw08_TreeCovers.j0 k a1 a2 true l0_0) else ((tree_Check.f l0_0).bind fun t379 => (phratrylaw08_TreeCovers.j0 k a1 a2 (t379 != 0) l0_0))))) = some r := h
  clear h
  have HC4 := Aside0.mk H
  clear H
  go_enter Tryd.func6, Tryd.ntmps6
  go_upto_region 1 with (first | ((with_reducible refine gate_dst (N := 3) rfl ?_); refine box_event ?hg (N := 3) ?hd (cs := #[.slice A0_0 l0_0.length c0_0]) (t := 24) ?hr ?_; (case hd => rfl); (case hg => rfl); (case hr => first | (go_simp; done) | (go_simp; rfl)); intro gb373 hg w5 hbox hb; have n0_ := Aside0.mk (below_step (by repeat (first | (with_reducible first | exact HB.out | apply below_alloc | apply pw_below_drewN | apply below_drew1) | exact HB.out)) hb); have n1_ := Aside0.mk (hbox); have n2_ := Aside0.mk ((by rw [hg]; exact (below_size (by repeat (first | (with_reducible first | exact HB.out | apply below_alloc | apply pw_below_drewN | apply below_drew1) | exact HB.out))) : w.heap.size ≤ gb373)); have n3_ := Aside0.mk ((by rw [hg]; exact (below_size (by repeat (first | (with_reducible first | exact HB.out | apply below_alloc | apply pw_below_drewN | apply below_drew1) | exact HB.out))) : w.heap.size ≤ gb373)); clear HB; have HB := n0_; have BK373 := n1_; have GW373 := n2_; have GE373 := n3_; clear n0_ n1_ n2_ n3_; clear hb hbox hg))
  (try simp only [Act.put, List.setIfInBounds_toArray, List.set_cons_zero, List.set_cons_succ])
  go_cut [25] (fun v25 wc => ∃ (kq : Nat) (x25_3 : Bool), v25 = .bool x25_3 ∧ Aside0 (phratrylaw08_TreeCovers.j0 kq a1 a2 x25_3 l0_0 = some r) ∧ Aside0 (kq ≤ k) ∧ Aside0 (wc.heap[gb373]? = some (.cells #[(.slice A0_0 l0_0.length c0_0)] 24 (0, 0))) ∧ Aside0 (Below w.heap.size w wc))
  case first =>
    have H := HC4.out
    clear HC4
    replace H := Option.bind_eq_some_iff.mp H
    obtain ⟨t374, A60, H⟩ := H
    replace H : ((phratrylaw01_Beyond.f k (([t374] : List Int))).bind fun t378 => (if t378 = true then (phratrylaw08_TreeCovers.j0 k a1 a2 true l0_0) else ((tree_Check.f l0_0).bind fun t379 => (phratrylaw08_TreeCovers.j0 k a1 a2 (t379 != 0) l0_0)))) = some r := H
    have A6 := Aside0.mk A60
    clear A60
    obtain ⟨y375, hy375⟩ : ∃ y_ : List Int, y_ = (([t374] : List Int)) := ⟨_, rfl⟩
    replace H : ((phratrylaw01_Beyond.f k y375).bind fun t378 => (if t378 = true then (phratrylaw08_TreeCovers.j0 k a1 a2 true l0_0) else ((tree_Check.f l0_0).bind fun t379 => (phratrylaw08_TreeCovers.j0 k a1 a2 (t379 != 0) l0_0)))) = some r := by first | (rw [hy375]; with_reducible exact H) | (have H2_ := (Option.bind_some _ _).symm.trans H; rw [hy375]; with_reducible exact H2_) | (have H2_ := (Option.bind_some _ _).symm.trans H; with_reducible exact H2_) | with_reducible exact H | (rw [hy375]; exact H) | exact H
    have Ny375 := Aside0.mk hy375
    clear hy375
    replace H := Option.bind_eq_some_iff.mp H
    obtain ⟨t378, A70, H⟩ := H
    replace H : (if t378 = true then (phratrylaw08_TreeCovers.j0 k a1 a2 true l0_0) else ((tree_Check.f l0_0).bind fun t379 => (phratrylaw08_TreeCovers.j0 k a1 a2 (t379 != 0) l0_0))) = some r := H
    have A7 := Aside0.mk A70
    clear A70
    by_cases c8 : t378 = true
    · subst c8
      have H1 : (phratrylaw08_TreeCovers.j0 k a1 a2 true l0_0) = some r := by rw [if_pos rfl] at H; exact H
      clear H
      have H := H1
      clear H1
      have H' := Aside0.mk H
      clear H
      have hcz9_0 : w5.cell? ⟨gb373, 0, none⟩ = some (.slice A0_0 l0_0.length c0_0) := (blk_cell BK373.out 0).trans rfl
      have hfz9_0 := blk_frozen BK373.out 0
      go_wp2_with (first | ((with_reducible refine gate_callee (f := 9) rfl ?_); refine goesL_ (some 18) rfl rfl Tryd.func9 (by kernel_rfl) rfl #[.agg #[.slice A0_0 l0_0.length c0_0]] rfl (by (try simp only [List.map_toArray, List.map_cons, List.map_nil]); first | done | rfl | (simp only [List.length_drop, List.length_take]; rfl)) ?_; (with_reducible refine (phratrylaw01_TreeSize.calls k _ _ l0_0 t374 _ ?side1 ?side2 A6.out).mono ?_); (case side1 => repeat (first | exact (Kd.C_below HR0_0.out HB.out) | (with_reducible refine Kd.C_alloc ?_ _) | (with_reducible refine Kd.C_drewN ?_ _) | (with_reducible refine Kd.C_drew ?_))); (case side2 => exact HC0_0.out); rintro e w10 ⟨rfl, hb⟩; refine ⟨_, rfl, ?_⟩; have n0_ := Aside0.mk (blk_below (g := gb373) (o := .cells #[.slice A0_0 l0_0.length c0_0] 24 (0, 0)) (by (with_reducible repeat (first | refine blk_drewN ?_ _ | refine blk_drew ?_ | refine blk_alloc ?_ _)); exact BK373.out) hb); have n1_ := Aside0.mk (below_step (by repeat (first | (with_reducible first | exact HB.out | apply below_alloc | apply pw_below_drewN | apply below_drew1 | refine below_set ?_ GE373.out) | exact HB.out)) hb); clear BK373; clear HB; have BK373 := n0_; have HB := n1_; clear n0_ n1_; (try clear hb); (try clear hb2); (try clear hk); (try clear hi)) | ((with_reducible refine gate_dst (N := 19) rfl ?_); refine Kd.R_lit (Kd.int .i64) _ 3 ?hg (N := 19) ?hd (xs := ([t374] : List Int)) (inner := [.int .i64 t374]) (ok := fun _ => True) (okp := fun _ => True) ?hr ?hp (fun _ hk => hk) trivial (Below.refl _ _) (Nat.le_refl _) (by simp) ?_; (case hd => rfl); (case hg => rfl); (case hr => first | (go_simp; done) | (go_simp; rfl)); (case hp => exact (Reps.one (show Kd.M (Kd.int .i64) _ _ _ t374 [.int .i64 t374] from rfl) (Reps.none _ _))); intro v376 w11 ho12 hb hg_ hnew_; clear hg_ hnew_; (first | rw [← Ny375.out] at ho12 | (simp only [Int.reduceToNat] at ho12; rw [← Ny375.out] at ho12)); have n0_ := Aside0.mk (Kd.R_lower ho12 (below_size (by repeat (first | (with_reducible first | exact HB.out | apply below_alloc | apply pw_below_drewN | apply below_drew1 | refine below_set ?_ GE373.out) | exact HB.out)))); have n1_ := Aside0.mk (blk_below (g := gb373) (o := .cells #[.slice A0_0 l0_0.length c0_0] 24 (0, 0)) (by (with_reducible repeat (first | refine blk_drewN ?_ _ | refine blk_drew ?_ | refine blk_alloc ?_ _)); exact BK373.out) hb); have n2_ := Aside0.mk (below_step (by repeat (first | (with_reducible first | exact HB.out | apply below_alloc | apply pw_below_drewN | apply below_drew1 | refine below_set ?_ GE373.out) | exact HB.out)) hb); clear BK373; clear HB; have HO377 := n0_; have BK373 := n1_; have HB := n2_; clear n0_ n1_ n2_; clear hb ho12; obtain ⟨Ao13, co13, eo13⟩ := Kd.R_slice HO377.out; subst eo13) | ((with_reducible refine gate_callee (f := 8) rfl ?_); refine goesL_ (some 20) rfl rfl Tryd.func8 (by kernel_rfl) rfl #[.slice Ao13 y375.length co13] rfl (by (try simp only [List.map_toArray, List.map_cons, List.map_nil]); first | done | rfl | (simp only [List.length_drop, List.length_take]; rfl)) ?_; (with_reducible refine (phratrylaw01_Beyond.calls k _ _ y375 true _ ?side1 ?side2 A7.out).mono ?_); (case side1 => repeat (first | exact (Kd.R_reads' HO377.out).2.2 | (with_reducible refine Kd.C_alloc ?_ _) | (with_reducible refine Kd.C_drewN ?_ _) | (with_reducible refine Kd.C_drew ?_))); (case side2 => exact (Kd.R_reads' HO377.out).2.1); rintro e w' ⟨rfl, ⟨nd, rfl⟩⟩; refine ⟨_, rfl, ?_⟩))
      go_meet
      case rel => exact ⟨_, (true), (by first | rfl | (simp; done) | (simp [*]; done)), H', ⟨by first | omega | exact Nat.le_refl _⟩, ⟨by (with_reducible repeat (first | refine blk_drewN ?_ _ | refine blk_drew ?_ | refine blk_alloc ?_ _)); exact BK373.out⟩, ⟨by repeat (first | (with_reducible first | exact HB.out | apply below_alloc | apply pw_below_drewN | apply below_drew1 | refine below_set ?_ GE373.out) | exact HB.out)⟩⟩
    · replace c8 := Bool.eq_false_iff.mpr c8
      subst c8
      have H1 : ((tree_Check.f l0_0).bind fun t379 => (phratrylaw08_TreeCovers.j0 k a1 a2 (t379 != 0) l0_0)) = some r := by rw [if_neg (show ¬ (false = true) by decide)] at H; exact H
      clear H
      have H := H1
      clear H1
      replace H := Option.bind_eq_some_iff.mp H
      obtain ⟨t379, A140, H⟩ := H
      replace H : (phratrylaw08_TreeCovers.j0 k a1 a2 (t379 != 0) l0_0) = some r := H
      have A14 := Aside0.mk A140
      clear A140
      have H' := Aside0.mk H
      clear H
      have hcz15_0 : w5.cell? ⟨gb373, 0, none⟩ = some (.slice A0_0 l0_0.length c0_0) := (blk_cell BK373.out 0).trans rfl
      have hfz15_0 := blk_frozen BK373.out 0
      go_wp2_with (first | ((with_reducible refine gate_callee (f := 9) rfl ?_); refine goesL_ (some 18) rfl rfl Tryd.func9 (by kernel_rfl) rfl #[.agg #[.slice A0_0 l0_0.length c0_0]] rfl (by (try simp only [List.map_toArray, List.map_cons, List.map_nil]); first | done | rfl | (simp only [List.length_drop, List.length_take]; rfl)) ?_; (with_reducible refine (phratrylaw01_TreeSize.calls k _ _ l0_0 t374 _ ?side1 ?side2 A6.out).mono ?_); (case side1 => repeat (first | exact (Kd.C_below HR0_0.out HB.out) | (with_reducible refine Kd.C_alloc ?_ _) | (with_reducible refine Kd.C_drewN ?_ _) | (with_reducible refine Kd.C_drew ?_))); (case side2 => exact HC0_0.out); rintro e w16 ⟨rfl, hb⟩; refine ⟨_, rfl, ?_⟩; have n0_ := Aside0.mk (blk_below (g := gb373) (o := .cells #[.slice A0_0 l0_0.length c0_0] 24 (0, 0)) (by (with_reducible repeat (first | refine blk_drewN ?_ _ | refine blk_drew ?_ | refine blk_alloc ?_ _)); exact BK373.out) hb); have n1_ := Aside0.mk (below_step (by repeat (first | (with_reducible first | exact HB.out | apply below_alloc | apply pw_below_drewN | apply below_drew1 | refine below_set ?_ GE373.out) | exact HB.out)) hb); clear BK373; clear HB; have BK373 := n0_; have HB := n1_; clear n0_ n1_; (try clear hb); (try clear hb2); (try clear hk); (try clear hi)) | ((with_reducible refine gate_dst (N := 19) rfl ?_); refine Kd.R_lit (Kd.int .i64) _ 3 ?hg (N := 19) ?hd (xs := ([t374] : List Int)) (inner := [.int .i64 t374]) (ok := fun _ => True) (okp := fun _ => True) ?hr ?hp (fun _ hk => hk) trivial (Below.refl _ _) (Nat.le_refl _) (by simp) ?_; (case hd => rfl); (case hg => rfl); (case hr => first | (go_simp; done) | (go_simp; rfl)); (case hp => exact (Reps.one (show Kd.M (Kd.int .i64) _ _ _ t374 [.int .i64 t374] from rfl) (Reps.none _ _))); intro v376 w17 ho18 hb hg_ hnew_; clear hg_ hnew_; (first | rw [← Ny375.out] at ho18 | (simp only [Int.reduceToNat] at ho18; rw [← Ny375.out] at ho18)); have n0_ := Aside0.mk (Kd.R_lower ho18 (below_size (by repeat (first | (with_reducible first | exact HB.out | apply below_alloc | apply pw_below_drewN | apply below_drew1 | refine below_set ?_ GE373.out) | exact HB.out)))); have n1_ := Aside0.mk (blk_below (g := gb373) (o := .cells #[.slice A0_0 l0_0.length c0_0] 24 (0, 0)) (by (with_reducible repeat (first | refine blk_drewN ?_ _ | refine blk_drew ?_ | refine blk_alloc ?_ _)); exact BK373.out) hb); have n2_ := Aside0.mk (below_step (by repeat (first | (with_reducible first | exact HB.out | apply below_alloc | apply pw_below_drewN | apply below_drew1 | refine below_set ?_ GE373.out) | exact HB.out)) hb); clear BK373; clear HB; have HO377 := n0_; have BK373 := n1_; have HB := n2_; clear n0_ n1_ n2_; clear hb ho18; obtain ⟨Ao19, co19, eo19⟩ := Kd.R_slice HO377.out; subst eo19) | ((with_reducible refine gate_callee (f := 8) rfl ?_); refine goesL_ (some 20) rfl rfl Tryd.func8 (by kernel_rfl) rfl #[.slice Ao19 y375.length co19] rfl (by (try simp only [List.map_toArray, List.map_cons, List.map_nil]); first | done | rfl | (simp only [List.length_drop, List.length_take]; rfl)) ?_; (with_reducible refine (phratrylaw01_Beyond.calls k _ _ y375 false _ ?side1 ?side2 A7.out).mono ?_); (case side1 => repeat (first | exact (Kd.R_reads' HO377.out).2.2 | (with_reducible refine Kd.C_alloc ?_ _) | (with_reducible refine Kd.C_drewN ?_ _) | (with_reducible refine Kd.C_drew ?_))); (case side2 => exact (Kd.R_reads' HO377.out).2.1); rintro e w' ⟨rfl, ⟨nd, rfl⟩⟩; refine ⟨_, rfl, ?_⟩; have hcz20_0 : w17.cell? ⟨gb373, 0, none⟩ = some (.slice A0_0 l0_0.length c0_0) := (blk_cell BK373.out 0).trans rfl; have hfz20_0 := blk_frozen BK373.out 0) | (go_at_call 10; (with_reducible refine (tree_Check.calls _ _ l0_0 t379 _ ?side1 ?side2 ?side3 A14.out).mono ?_); (case side1 => repeat (first | exact (Kd.C_below HR0_0.out (by repeat (first | (with_reducible first | exact HB.out | apply below_alloc | apply pw_below_drewN | apply below_drew1 | refine below_set ?_ GE373.out) | exact HB.out))) | (with_reducible refine Kd.C_alloc ?_ _) | (with_reducible refine Kd.C_drewN ?_ _) | (with_reducible refine Kd.C_drew ?_))); (case side2 => exact HC0_0.out); (case side3 => repeat (first | exact HT.out | exact TabG.below HT.out HB.out | (with_reducible refine TabG.alloc ?_ _) | (with_reducible refine TabG.drewN ?_ _) | (with_reducible refine TabG.drew ?_) | exact TabG.below HT.out (by repeat (first | (with_reducible first | exact HB.out | apply below_alloc | apply pw_below_drewN | apply below_drew1 | refine below_set ?_ GE373.out) | exact HB.out)))); rintro e w21 ⟨rfl, hb⟩; have n0_ := Aside0.mk (Kd.R_below (by (with_reducible repeat (first | apply Kd.R_alloc | apply Kd.R_drewN | apply Kd.R_drew)); exact HO377.out) hb); have n1_ := Aside0.mk (blk_below (g := gb373) (o := .cells #[.slice A0_0 l0_0.length c0_0] 24 (0, 0)) (by (with_reducible repeat (first | refine blk_drewN ?_ _ | refine blk_drew ?_ | refine blk_alloc ?_ _)); exact BK373.out) hb); have n2_ := Aside0.mk (below_step (by repeat (first | (with_reducible first | exact HB.out | apply below_alloc | apply pw_below_drewN | apply below_drew1 | refine below_set ?_ GE373.out) | exact HB.out)) hb); clear HO377; clear BK373; clear HB; have HO377 := n0_; have BK373 := n1_; have HB := n2_; clear n0_ n1_ n2_; (try clear hb); (try clear hb2); (try clear hk); (try clear hi)))
      go_meet
      case rel => exact ⟨_, ((t379 != 0)), (by first | rfl | (simp; done) | (simp [*]; done)), H', ⟨by first | omega | exact Nat.le_refl _⟩, ⟨by (with_reducible repeat (first | refine blk_drewN ?_ _ | refine blk_drew ?_ | refine blk_alloc ?_ _)); exact BK373.out⟩, ⟨by repeat (first | (with_reducible first | exact HB.out | apply below_alloc | apply pw_below_drewN | apply below_drew1 | refine below_set ?_ GE373.out) | exact HB.out)⟩⟩
  case rest =>
    clear HC4
    try clear p2
    try clear c6
    try clear c8
    try clear c9
    try clear hcz15_0
    try clear hcz20_0
    try clear hcz9_0
    try clear hfz15_0
    try clear hfz20_0
    try clear hfz9_0
    obtain ⟨kq, x25_3, rfl, HA, HJ3, BK373, HB⟩ := hcut
    cases kq with
    | zero => exact absurd HA.out (by simp [phratrylaw08_TreeCovers.j0])
    | succ kj3 =>
      have H := HA.out
      clear HA
      simp only [phratrylaw08_TreeCovers.j0] at H
      by_cases c22 : x25_3 = true
      · subst c22
        have H1 : ((phratrylaw08_alive.f kj3).bind fun t380 => (some t380)) = some r := by rw [if_pos rfl] at H; exact H
        clear H
        have H := H1
        clear H1
        replace H := Option.bind_eq_some_iff.mp H
        obtain ⟨t380, A230, H⟩ := H
        replace H : (some t380) = some r := H
        have A23 := Aside0.mk A230
        clear A230
        obtain rfl := Option.some.inj H
        go_wp2_with (first | ((with_reducible refine gate_callee (f := 11) rfl ?_); refine goesL_ (some 26) rfl rfl Tryd.func11 (by kernel_rfl) rfl #[] rfl (by (try simp only [List.map_toArray, List.map_cons, List.map_nil]); first | done | rfl | (simp only [List.length_drop, List.length_take]; rfl)) ?_; (with_reducible refine (phratrylaw08_alive.calls kj3  t380 _ ?side1 A23.out).mono ?_); (case side1 => repeat (first | exact HT.out | exact TabG.below HT.out HB.out | (with_reducible refine TabG.alloc ?_ _) | (with_reducible refine TabG.drewN ?_ _) | (with_reducible refine TabG.drew ?_) | exact TabG.below HT.out (by repeat (first | (with_reducible first | exact HB.out | apply below_alloc | apply pw_below_drewN | apply below_drew1 | refine below_set ?_ GE373.out) | exact HB.out)))); rintro e w24 ⟨rfl, hb⟩; refine ⟨_, rfl, ?_⟩; have n0_ := Aside0.mk (blk_below (g := gb373) (o := .cells #[.slice A0_0 l0_0.length c0_0] 24 (0, 0)) (by (with_reducible repeat (first | refine blk_drewN ?_ _ | refine blk_drew ?_ | refine blk_alloc ?_ _)); exact BK373.out) hb); have n1_ := Aside0.mk (below_step (by repeat (first | (with_reducible first | exact HB.out | apply below_alloc | apply pw_below_drewN | apply below_drew1 | refine below_set ?_ GE373.out) | exact HB.out)) hb); clear BK373; clear HB; have BK373 := n0_; have HB := n1_; clear n0_ n1_; (try clear hb); (try clear hb2); (try clear hk); (try clear hi)))
        go_ret
        exact ⟨by first | rfl | (simp [errW_none, errW_some] <;> rfl) | (simp [*, errW_none, errW_some] <;> rfl), by repeat (first | (with_reducible first | exact HB.out | apply below_alloc | apply pw_below_drewN | apply below_drew1 | refine below_set ?_ GE373.out) | exact HB.out)⟩
      · replace c22 := Bool.eq_false_iff.mpr c22
        subst c22
        have H1 : ((tree_Resolution.f l0_0 a1).bind fun bt381 => (if bt381.2 = 0 then (phratrylaw08_TreeCovers.l0 kj3 a1 a2 bt381.1 0 l0_0) else (phratrylaw08_TreeCovers.j2 kj3 a2 l0_0))) = some r := by rw [if_neg (show ¬ (false = true) by decide)] at H; exact H
        clear H
        have H := H1
        clear H1
        replace H := Option.bind_eq_some_iff.mp H
        obtain ⟨⟨t381, t384⟩, A250, H⟩ := H
        replace H : (if t384 = 0 then (phratrylaw08_TreeCovers.l0 kj3 a1 a2 t381 0 l0_0) else (phratrylaw08_TreeCovers.j2 kj3 a2 l0_0)) = some r := H
        have A25 := Aside0.mk A250
        clear A250
        have HC26 := Aside0.mk H
        clear H
        have hcz27_0 : wc.cell? ⟨gb373, 0, none⟩ = some (.slice A0_0 l0_0.length c0_0) := (blk_cell BK373.out 0).trans rfl
        have hfz27_0 := blk_frozen BK373.out 0
        go_upto_if 34 with (first | ((with_reducible refine gate_callee (f := 19) rfl ?_); refine goesL_ (some 30) rfl rfl Tryd.func19 (by kernel_rfl) rfl #[.agg #[.slice A0_0 l0_0.length c0_0], .int .i64 a1] rfl (by (try simp only [List.map_toArray, List.map_cons, List.map_nil]); first | done | rfl | (simp only [List.length_drop, List.length_take]; rfl)) ?_; (with_reducible refine (tree_Resolution.calls _ _ l0_0 a1 t381 t384 _ ?side1 ?side2 ?side3 A25.out).mono ?_); (case side1 => repeat (first | exact (Kd.C_below HR0_0.out HB.out) | (with_reducible refine Kd.C_alloc ?_ _) | (with_reducible refine Kd.C_drewN ?_ _) | (with_reducible refine Kd.C_drew ?_))); (case side2 => exact HC0_0.out); (case side3 => repeat (first | exact HT.out | exact TabG.below HT.out HB.out | (with_reducible refine TabG.alloc ?_ _) | (with_reducible refine TabG.drewN ?_ _) | (with_reducible refine TabG.drew ?_) | exact TabG.below HT.out (by repeat (first | (with_reducible first | exact HB.out | apply below_alloc | apply pw_below_drewN | apply below_drew1 | refine below_set ?_ GE373.out) | exact HB.out)))); rintro e w28 ⟨v382, rfl, ho0, hb⟩; refine ⟨_, rfl, ?_⟩; have n0_ := Aside0.mk (Kd.R_lower ho0 (below_size (by repeat (first | (with_reducible first | exact HB.out | apply below_alloc | apply pw_below_drewN | apply below_drew1 | refine below_set ?_ GE373.out) | exact HB.out)))); have n1_ := Aside0.mk (blk_below (g := gb373) (o := .cells #[.slice A0_0 l0_0.length c0_0] 24 (0, 0)) (by (with_reducible repeat (first | refine blk_drewN ?_ _ | refine blk_drew ?_ | refine blk_alloc ?_ _)); exact BK373.out) hb); have n2_ := Aside0.mk (below_step (by repeat (first | (with_reducible first | exact HB.out | apply below_alloc | apply pw_below_drewN | apply below_drew1 | refine below_set ?_ GE373.out) | exact HB.out)) hb); clear BK373; clear HB; have HO383 := n0_; have BK373 := n1_; have HB := n2_; clear n0_ n1_ n2_; (try clear hb); (try clear hb2); (try clear hk); (try clear hi); (try clear ho0)))
        (try simp only [Act.put, List.setIfInBounds_toArray, List.set_cons_zero, List.set_cons_succ])
        go_cut [] (fun wc => ∃ (kq : Nat), Aside0 (phratrylaw08_TreeCovers.j2 kq a2 l0_0 = some r) ∧ Aside0 (kq ≤ kj3) ∧ Aside0 (wc.heap[gb373]? = some (.cells #[(.slice A0_0 l0_0.length c0_0)] 24 (0, 0))) ∧ Aside0 (Below w.heap.size w wc))
        case first =>
          have H := HC26.out
          clear HC26
          by_cases c29 : t384 = 0
          · rw [if_pos c29] at H
            have c29b0 : (t384 == 0) = true := beq_iff_eq.mpr c29
            have c29b1 : (t384 != 0) = false := bne_eq_false_iff_eq.mpr c29
            clear c29
            (first | rw [c29b0] | (simp only [i64_w, i32_w]; rw [c29b0]) | skip)
            have H' := Aside0.mk H
            clear H
            go_wp2
            go_loopg [9] kj3 (fun kq v9 w' => ∃ (x9_2 : Int), v9 = .int .i64 x9_2 ∧ Aside0 (phratrylaw08_TreeCovers.l0 kq a1 a2 t381 x9_2 l0_0 = some r) ∧ Aside0 (kq ≤ kj3) ∧ Aside0 (Kd.R (Kd.int .i64) 3 w' w.heap.size (fun _ => True) v382 t381) ∧ Aside0 (w'.heap[gb373]? = some (.cells #[(.slice A0_0 l0_0.length c0_0)] 24 (0, 0))) ∧ Aside0 (Below w.heap.size w w'))
            case atStart => exact ⟨(0), (by first | rfl | (simp; done) | (simp [*]; done)), H', ⟨Nat.le_refl _⟩, ⟨by (with_reducible repeat (first | apply Kd.R_alloc | apply Kd.R_drewN | apply Kd.R_drew)); exact HO383.out⟩, ⟨by (with_reducible repeat (first | refine blk_drewN ?_ _ | refine blk_drew ?_ | refine blk_alloc ?_ _)); exact BK373.out⟩, ⟨by repeat (first | (with_reducible first | exact HB.out | apply below_alloc | apply pw_below_drewN | apply below_drew1 | refine below_set ?_ GE373.out) | exact HB.out)⟩⟩
            case round =>
              clear H'
              try clear c1
              try clear c2
              try clear p2
              try clear c6
              try clear c8
              try clear c9
              try clear c11
              try clear c19
              try clear c22
              try clear c29
              try clear c29b0
              try clear c29b1
              try clear hcz15_0
              try clear hcz20_0
              try clear hcz27_0
              try clear hcz9_0
              try clear hfz15_0
              try clear hfz20_0
              try clear hfz27_0
              try clear hfz9_0
              try clear p2
              obtain ⟨x9_2, rfl, HA, HK2, HO_7, BK373, HB⟩ := hrel
              cases gk with
              | zero => exact absurd HA.out (by simp [phratrylaw08_TreeCovers.l0])
              | succ k2 =>
                have H := HA.out
                clear HA
                simp only [phratrylaw08_TreeCovers.l0] at H
                replace H := Option.bind_eq_some_iff.mp H
                obtain ⟨t385, A300, H⟩ := H
                replace H : (if x9_2 < t385 then ((phratryref02_Within.f k2 (wrap64 (2 * x9_2)) a1).bind fun t386 => (if t386 = true then (if 0 ≤ (wrap64 (2 * x9_2)) then (if (wrap64 (2 * x9_2)) < (l0_0.length : Int) then (if ((rd_T45 l0_0 (wrap64 (2 * x9_2))).f0) > 0 then ((phratrylaw08_names.f l0_0 t381 x9_2).bind fun t388 => (if t388 = 1 then (phratrylaw08_TreeCovers.l0 k2 a1 a2 t381 (wrap64 (x9_2 + 1)) l0_0) else (some false))) else (phratrylaw08_TreeCovers.l0 k2 a1 a2 t381 (wrap64 (x9_2 + 1)) l0_0)) else (none)) else (none)) else (if 0 ≤ (wrap64 (2 * x9_2)) then (if (wrap64 (2 * x9_2)) < (l0_0.length : Int) then (if ((rd_T45 l0_0 (wrap64 (2 * x9_2))).f0) > 0 then ((phratrylaw08_names.f l0_0 t381 x9_2).bind fun t390 => (if t390 = 0 then (phratrylaw08_TreeCovers.l0 k2 a1 a2 t381 (wrap64 (x9_2 + 1)) l0_0) else (some false))) else (phratrylaw08_TreeCovers.l0 k2 a1 a2 t381 (wrap64 (x9_2 + 1)) l0_0)) else (none)) else (none)))) else (phratrylaw08_TreeCovers.j2 k2 a2 l0_0)) = some r := H
                have A30 := Aside0.mk A300
                clear A300
                by_cases c31 : x9_2 < t385
                · rw [if_pos c31] at H
                  have c31b0 : decide (x9_2 < t385) = true := decide_eq_true c31
                  clear c31
                  replace H := Option.bind_eq_some_iff.mp H
                  obtain ⟨t386, A320, H⟩ := H
                  replace H : (if t386 = true then (if 0 ≤ (wrap64 (2 * x9_2)) then (if (wrap64 (2 * x9_2)) < (l0_0.length : Int) then (if ((rd_T45 l0_0 (wrap64 (2 * x9_2))).f0) > 0 then ((phratrylaw08_names.f l0_0 t381 x9_2).bind fun t388 => (if t388 = 1 then (phratrylaw08_TreeCovers.l0 k2 a1 a2 t381 (wrap64 (x9_2 + 1)) l0_0) else (some false))) else (phratrylaw08_TreeCovers.l0 k2 a1 a2 t381 (wrap64 (x9_2 + 1)) l0_0)) else (none)) else (none)) else (if 0 ≤ (wrap64 (2 * x9_2)) then (if (wrap64 (2 * x9_2)) < (l0_0.length : Int) then (if ((rd_T45 l0_0 (wrap64 (2 * x9_2))).f0) > 0 then ((phratrylaw08_names.f l0_0 t381 x9_2).bind fun t390 => (if t390 = 0 then (phratrylaw08_TreeCovers.l0 k2 a1 a2 t381 (wrap64 (x9_2 + 1)) l0_0) else (some false))) else (phratrylaw08_TreeCovers.l0 k2 a1 a2 t381 (wrap64 (x9_2 + 1)) l0_0)) else (none)) else (none))) = some r := H
                  have A32 := Aside0.mk A320
                  clear A320
                  by_cases c33 : t386 = true
                  · subst c33
                    have H1 : (if 0 ≤ (wrap64 (2 * x9_2)) then (if (wrap64 (2 * x9_2)) < (l0_0.length : Int) then (if ((rd_T45 l0_0 (wrap64 (2 * x9_2))).f0) > 0 then ((phratrylaw08_names.f l0_0 t381 x9_2).bind fun t388 => (if t388 = 1 then (phratrylaw08_TreeCovers.l0 k2 a1 a2 t381 (wrap64 (x9_2 + 1)) l0_0) else (some false))) else (phratrylaw08_TreeCovers.l0 k2 a1 a2 t381 (wrap64 (x9_2 + 1)) l0_0)) else (none)) else (none)) = some r := by rw [if_pos rfl] at H; exact H
                    clear H
                    have H := H1
                    clear H1
                    obtain ⟨ji34, hji34⟩ : ∃ j_ : Int, (wrap64 (2 * x9_2)) = j_ := ⟨_, rfl⟩
                    replace H : (if 0 ≤ (ji34) then (if (ji34) < (l0_0.length : Int) then (if ((rd_T45 l0_0 (ji34)).f0) > 0 then ((phratrylaw08_names.f l0_0 t381 x9_2).bind fun t388 => (if t388 = 1 then (phratrylaw08_TreeCovers.l0 k2 a1 a2 t381 (wrap64 (x9_2 + 1)) l0_0) else (some false))) else (phratrylaw08_TreeCovers.l0 k2 a1 a2 t381 (wrap64 (x9_2 + 1)) l0_0)) else (none)) else (none)) = some r := by first | (rw [hji34] at H; exact H) | (simp only [hji34] at H ⊢; exact H)
                    (try rw [hji34] at A30)
                    (try rw [hji34] at A32)
                    have hji34w : (IntKind.i64.wrap (2 * x9_2)) = ji34 := (i64_w _).trans hji34
                    by_cases c35 : 0 ≤ (ji34)
                    · rw [if_pos c35] at H
                      have c35b0 : decide (0 ≤ (ji34)) = true := decide_eq_true c35
                      clear c35
                      by_cases c36 : (ji34) < (l0_0.length : Int)
                      · rw [if_pos c36] at H
                        have c36b0 : decide ((ji34) < (l0_0.length : Int)) = true := decide_eq_true c36
                        clear c36
                        by_cases c37 : ((rd_T45 l0_0 (ji34)).f0) > 0
                        · rw [if_pos c37] at H
                          have c37b0 : decide (0 < ((rd_T45 l0_0 (ji34)).f0)) = true := decide_eq_true c37
                          clear c37
                          replace H := Option.bind_eq_some_iff.mp H
                          obtain ⟨t388, A380, H⟩ := H
                          replace H : (if t388 = 1 then (phratrylaw08_TreeCovers.l0 k2 a1 a2 t381 (wrap64 (x9_2 + 1)) l0_0) else (some false)) = some r := H
                          have A38 := Aside0.mk A380
                          clear A380
                          by_cases c39 : t388 = 1
                          · rw [if_pos c39] at H
                            have c39b0 : (t388 == 1) = true := beq_iff_eq.mpr c39
                            have c39b1 : (t388 != 1) = false := bne_eq_false_iff_eq.mpr c39
                            clear c39
                            have H' := Aside0.mk H
                            clear H
                            have hcz40_0 : wr.cell? ⟨gb373, 0, none⟩ = some (.slice A0_0 l0_0.length c0_0) := (blk_cell BK373.out 0).trans rfl
                            have hfz40_0 := blk_frozen BK373.out 0
                            go_wp2_with (first | ((with_reducible refine gate_callee (f := 20) rfl ?_); refine goesL_ (some 37) rfl rfl Tryd.func20 (by kernel_rfl) rfl #[.agg #[.slice A0_0 l0_0.length c0_0]] rfl (by (try simp only [List.map_toArray, List.map_cons, List.map_nil]); first | done | rfl | (simp only [List.length_drop, List.length_take]; rfl)) ?_; (with_reducible refine (tree_Size.calls _ _ l0_0 t385 _ ?side1 ?side2 ?side3 A30.out).mono ?_); (case side1 => repeat (first | exact (Kd.C_below HR0_0.out HB.out) | (with_reducible refine Kd.C_alloc ?_ _) | (with_reducible refine Kd.C_drewN ?_ _) | (with_reducible refine Kd.C_drew ?_))); (case side2 => exact HC0_0.out); (case side3 => repeat (first | exact HT.out | exact TabG.below HT.out HB.out | (with_reducible refine TabG.alloc ?_ _) | (with_reducible refine TabG.drewN ?_ _) | (with_reducible refine TabG.drew ?_) | exact TabG.below HT.out (by repeat (first | (with_reducible first | exact HB.out | apply below_alloc | apply pw_below_drewN | apply below_drew1 | refine below_set ?_ GE373.out) | exact HB.out)))); rintro e w41 ⟨rfl, hb⟩; refine ⟨_, rfl, ?_⟩; have n0_ := Aside0.mk (Kd.R_below (by (with_reducible repeat (first | apply Kd.R_alloc | apply Kd.R_drewN | apply Kd.R_drew)); exact HO_7.out) hb); have n1_ := Aside0.mk (blk_below (g := gb373) (o := .cells #[.slice A0_0 l0_0.length c0_0] 24 (0, 0)) (by (with_reducible repeat (first | refine blk_drewN ?_ _ | refine blk_drew ?_ | refine blk_alloc ?_ _)); exact BK373.out) hb); have n2_ := Aside0.mk (below_step (by repeat (first | (with_reducible first | exact HB.out | apply below_alloc | apply pw_below_drewN | apply below_drew1 | refine below_set ?_ GE373.out) | exact HB.out)) hb); clear HO_7; clear BK373; clear HB; have HO_7 := n0_; have BK373 := n1_; have HB := n2_; clear n0_ n1_ n2_; (try clear hb); (try clear hb2); (try clear hk); (try clear hi)) | ((with_reducible refine gate_callee (f := 24) rfl ?_); refine goesL_ (some 44) rfl rfl Tryd.func24 (by kernel_rfl) rfl #[.int .i64 ji34, .int .i64 a1] rfl (by (try simp only [List.map_toArray, List.map_cons, List.map_nil]); first | done | (simp only [hji34]; rfl) | rfl | (simp only [List.length_drop, List.length_take]; rfl)) ?_; (with_reducible refine (phratryref02_Within.calls k2 ji34 a1 true _ A32.out).mono ?_); rintro e w' ⟨rfl, ⟨nd, rfl⟩⟩; refine ⟨_, rfl, ?_⟩; have hcz42_0 : w41.cell? ⟨gb373, 0, none⟩ = some (.slice A0_0 l0_0.length c0_0) := (blk_cell BK373.out 0).trans rfl; have hfz42_0 := blk_frozen BK373.out 0; have p387 : 0 ≤ ((ji34) : Int) := of_decide_eq_true (by first | (with_reducible assumption) | assumption); have q387 : (ji34) < (l0_0.length : Int) := of_decide_eq_true (by first | (with_reducible assumption) | assumption); obtain ⟨ad387, A387_3, c387_3, e387, hx387_0, hx387_1, hx387_2, hx387_3, hl387_3, hi387_3⟩ := at_T45 HR0_0.out (ji34) p387 q387; cases e387; replace hx387_0 := (HB.out.cell (World.block_lt_of_cell? w _ hx387_0)).trans hx387_0; replace hx387_1 := (HB.out.cell (World.block_lt_of_cell? w _ hx387_1)).trans hx387_1; replace hx387_2 := (HB.out.cell (World.block_lt_of_cell? w _ hx387_2)).trans hx387_2; replace hx387_3 := (HB.out.cell (World.block_lt_of_cell? w _ hx387_3)).trans hx387_3; have HR387_3 := Aside0.mk hi387_3; have HC387_3 := Aside0.mk hl387_3; clear hi387_3 hl387_3; replace p387 := eq_true p387; replace q387 := eq_true q387; obtain ⟨Ao43, co43, eo43⟩ := Kd.R_slice HO_7.out; subst eo43) | (go_at_call 23; (with_reducible refine (phratrylaw08_names.calls _ _ l0_0 _ _ t381 x9_2 t388 _ ?side1 ?side2 ?side3 ?side4 A38.out).mono ?_); (case side1 => repeat (first | exact (Kd.C_below HR0_0.out (by repeat (first | (with_reducible first | exact HB.out | apply below_alloc | apply pw_below_drewN | apply below_drew1 | refine below_set ?_ GE373.out) | exact HB.out))) | (with_reducible refine Kd.C_alloc ?_ _) | (with_reducible refine Kd.C_drewN ?_ _) | (with_reducible refine Kd.C_drew ?_))); (case side2 => exact HC0_0.out); (case side3 => repeat (first | exact (Kd.R_reads' HO_7.out).2.2 | (with_reducible refine Kd.C_alloc ?_ _) | (with_reducible refine Kd.C_drewN ?_ _) | (with_reducible refine Kd.C_drew ?_))); (case side4 => exact (Kd.R_reads' HO_7.out).2.1); rintro e w44 ⟨rfl, hb⟩; have n0_ := Aside0.mk (Kd.R_below (by (with_reducible repeat (first | apply Kd.R_alloc | apply Kd.R_drewN | apply Kd.R_drew)); exact HO_7.out) hb); have n1_ := Aside0.mk (blk_below (g := gb373) (o := .cells #[.slice (some ad387) l0_0.length c0_0] 24 (0, 0)) (by (with_reducible repeat (first | refine blk_drewN ?_ _ | refine blk_drew ?_ | refine blk_alloc ?_ _)); exact BK373.out) hb); have n2_ := Aside0.mk (below_step (by repeat (first | (with_reducible first | exact HB.out | apply below_alloc | apply pw_below_drewN | apply below_drew1 | refine below_set ?_ GE373.out) | exact HB.out)) hb); clear HO_7; clear BK373; clear HB; have HO_7 := n0_; have BK373 := n1_; have HB := n2_; clear n0_ n1_ n2_; (try clear hb); (try clear hb2); (try clear hk); (try clear hi)))
                            go_roundg k2
                            case measure => have := HJ3.out; have := HK2.out; omega
                            case rel => exact ⟨(wrap64 (x9_2 + 1)), (by first | rfl | (simp; done) | (simp [*]; done)), H', ⟨by have := HJ3.out; have := HK2.out; omega⟩, ⟨by (with_reducible repeat (first | apply Kd.R_alloc | apply Kd.R_drewN | apply Kd.R_drew)); exact HO_7.out⟩, ⟨by (with_reducible repeat (first | refine blk_drewN ?_ _ | refine blk_drew ?_ | refine blk_alloc ?_ _)); exact BK373.out⟩, ⟨by repeat (first | (with_reducible first | exact HB.out | apply below_alloc | apply pw_below_drewN | apply below_drew1 | refine below_set ?_ GE373.out) | exact HB.out)⟩⟩
                          · rw [if_neg c39] at H
                            have c39b0 : (t388 == 1) = false := beq_eq_false_iff_ne.mpr c39
                            have c39b1 : (t388 != 1) = true := bne_iff_ne.mpr c39
                            obtain rfl := Option.some.inj H
                            have hcz45_0 : wr.cell? ⟨gb373, 0, none⟩ = some (.slice A0_0 l0_0.length c0_0) := (blk_cell BK373.out 0).trans rfl
                            have hfz45_0 := blk_frozen BK373.out 0
                            go_wp2_with (first | ((with_reducible refine gate_callee (f := 20) rfl ?_); refine goesL_ (some 37) rfl rfl Tryd.func20 (by kernel_rfl) rfl #[.agg #[.slice A0_0 l0_0.length c0_0]] rfl (by (try simp only [List.map_toArray, List.map_cons, List.map_nil]); first | done | rfl | (simp only [List.length_drop, List.length_take]; rfl)) ?_; (with_reducible refine (tree_Size.calls _ _ l0_0 t385 _ ?side1 ?side2 ?side3 A30.out).mono ?_); (case side1 => repeat (first | exact (Kd.C_below HR0_0.out HB.out) | (with_reducible refine Kd.C_alloc ?_ _) | (with_reducible refine Kd.C_drewN ?_ _) | (with_reducible refine Kd.C_drew ?_))); (case side2 => exact HC0_0.out); (case side3 => repeat (first | exact HT.out | exact TabG.below HT.out HB.out | (with_reducible refine TabG.alloc ?_ _) | (with_reducible refine TabG.drewN ?_ _) | (with_reducible refine TabG.drew ?_) | exact TabG.below HT.out (by repeat (first | (with_reducible first | exact HB.out | apply below_alloc | apply pw_below_drewN | apply below_drew1 | refine below_set ?_ GE373.out) | exact HB.out)))); rintro e w46 ⟨rfl, hb⟩; refine ⟨_, rfl, ?_⟩; have n0_ := Aside0.mk (Kd.R_below (by (with_reducible repeat (first | apply Kd.R_alloc | apply Kd.R_drewN | apply Kd.R_drew)); exact HO_7.out) hb); have n1_ := Aside0.mk (blk_below (g := gb373) (o := .cells #[.slice A0_0 l0_0.length c0_0] 24 (0, 0)) (by (with_reducible repeat (first | refine blk_drewN ?_ _ | refine blk_drew ?_ | refine blk_alloc ?_ _)); exact BK373.out) hb); have n2_ := Aside0.mk (below_step (by repeat (first | (with_reducible first | exact HB.out | apply below_alloc | apply pw_below_drewN | apply below_drew1 | refine below_set ?_ GE373.out) | exact HB.out)) hb); clear HO_7; clear BK373; clear HB; have HO_7 := n0_; have BK373 := n1_; have HB := n2_; clear n0_ n1_ n2_; (try clear hb); (try clear hb2); (try clear hk); (try clear hi)) | ((with_reducible refine gate_callee (f := 24) rfl ?_); refine goesL_ (some 44) rfl rfl Tryd.func24 (by kernel_rfl) rfl #[.int .i64 ji34, .int .i64 a1] rfl (by (try simp only [List.map_toArray, List.map_cons, List.map_nil]); first | done | (simp only [hji34]; rfl) | rfl | (simp only [List.length_drop, List.length_take]; rfl)) ?_; (with_reducible refine (phratryref02_Within.calls k2 ji34 a1 true _ A32.out).mono ?_); rintro e w' ⟨rfl, ⟨nd, rfl⟩⟩; refine ⟨_, rfl, ?_⟩; have hcz47_0 : w46.cell? ⟨gb373, 0, none⟩ = some (.slice A0_0 l0_0.length c0_0) := (blk_cell BK373.out 0).trans rfl; have hfz47_0 := blk_frozen BK373.out 0; have p387 : 0 ≤ ((ji34) : Int) := of_decide_eq_true (by first | (with_reducible assumption) | assumption); have q387 : (ji34) < (l0_0.length : Int) := of_decide_eq_true (by first | (with_reducible assumption) | assumption); obtain ⟨ad387, A387_3, c387_3, e387, hx387_0, hx387_1, hx387_2, hx387_3, hl387_3, hi387_3⟩ := at_T45 HR0_0.out (ji34) p387 q387; cases e387; replace hx387_0 := (HB.out.cell (World.block_lt_of_cell? w _ hx387_0)).trans hx387_0; replace hx387_1 := (HB.out.cell (World.block_lt_of_cell? w _ hx387_1)).trans hx387_1; replace hx387_2 := (HB.out.cell (World.block_lt_of_cell? w _ hx387_2)).trans hx387_2; replace hx387_3 := (HB.out.cell (World.block_lt_of_cell? w _ hx387_3)).trans hx387_3; have HR387_3 := Aside0.mk hi387_3; have HC387_3 := Aside0.mk hl387_3; clear hi387_3 hl387_3; replace p387 := eq_true p387; replace q387 := eq_true q387; obtain ⟨Ao48, co48, eo48⟩ := Kd.R_slice HO_7.out; subst eo48) | (go_at_call 23; (with_reducible refine (phratrylaw08_names.calls _ _ l0_0 _ _ t381 x9_2 t388 _ ?side1 ?side2 ?side3 ?side4 A38.out).mono ?_); (case side1 => repeat (first | exact (Kd.C_below HR0_0.out (by repeat (first | (with_reducible first | exact HB.out | apply below_alloc | apply pw_below_drewN | apply below_drew1 | refine below_set ?_ GE373.out) | exact HB.out))) | (with_reducible refine Kd.C_alloc ?_ _) | (with_reducible refine Kd.C_drewN ?_ _) | (with_reducible refine Kd.C_drew ?_))); (case side2 => exact HC0_0.out); (case side3 => repeat (first | exact (Kd.R_reads' HO_7.out).2.2 | (with_reducible refine Kd.C_alloc ?_ _) | (with_reducible refine Kd.C_drewN ?_ _) | (with_reducible refine Kd.C_drew ?_))); (case side4 => exact (Kd.R_reads' HO_7.out).2.1); rintro e w49 ⟨rfl, hb⟩; have n0_ := Aside0.mk (Kd.R_below (by (with_reducible repeat (first | apply Kd.R_alloc | apply Kd.R_drewN | apply Kd.R_drew)); exact HO_7.out) hb); have n1_ := Aside0.mk (blk_below (g := gb373) (o := .cells #[.slice (some ad387) l0_0.length c0_0] 24 (0, 0)) (by (with_reducible repeat (first | refine blk_drewN ?_ _ | refine blk_drew ?_ | refine blk_alloc ?_ _)); exact BK373.out) hb); have n2_ := Aside0.mk (below_step (by repeat (first | (with_reducible first | exact HB.out | apply below_alloc | apply pw_below_drewN | apply below_drew1 | refine below_set ?_ GE373.out) | exact HB.out)) hb); clear HO_7; clear BK373; clear HB; have HO_7 := n0_; have BK373 := n1_; have HB := n2_; clear n0_ n1_ n2_; (try clear hb); (try clear hb2); (try clear hk); (try clear hi)))
                            go_ret
                            exact ⟨by first | rfl | (simp [errW_none, errW_some] <;> rfl) | (simp only [← hji34]; first | rfl | (simp [errW_none, errW_some] <;> rfl)) | (simp [*, errW_none, errW_some] <;> rfl), by repeat (first | (with_reducible first | exact HB.out | apply below_alloc | apply pw_below_drewN | apply below_drew1 | refine below_set ?_ GE373.out) | exact HB.out)⟩
                        · rw [if_neg c37] at H
                          have c37b0 : decide (0 < ((rd_T45 l0_0 (ji34)).f0)) = false := decide_eq_false c37
                          clear c37
                          have H' := Aside0.mk H
                          clear H
                          have hcz50_0 : wr.cell? ⟨gb373, 0, none⟩ = some (.slice A0_0 l0_0.length c0_0) := (blk_cell BK373.out 0).trans rfl
                          have hfz50_0 := blk_frozen BK373.out 0
                          go_wp2_with (first | ((with_reducible refine gate_callee (f := 20) rfl ?_); refine goesL_ (some 37) rfl rfl Tryd.func20 (by kernel_rfl) rfl #[.agg #[.slice A0_0 l0_0.length c0_0]] rfl (by (try simp only [List.map_toArray, List.map_cons, List.map_nil]); first | done | rfl | (simp only [List.length_drop, List.length_take]; rfl)) ?_; (with_reducible refine (tree_Size.calls _ _ l0_0 t385 _ ?side1 ?side2 ?side3 A30.out).mono ?_); (case side1 => repeat (first | exact (Kd.C_below HR0_0.out HB.out) | (with_reducible refine Kd.C_alloc ?_ _) | (with_reducible refine Kd.C_drewN ?_ _) | (with_reducible refine Kd.C_drew ?_))); (case side2 => exact HC0_0.out); (case side3 => repeat (first | exact HT.out | exact TabG.below HT.out HB.out | (with_reducible refine TabG.alloc ?_ _) | (with_reducible refine TabG.drewN ?_ _) | (with_reducible refine TabG.drew ?_) | exact TabG.below HT.out (by repeat (first | (with_reducible first | exact HB.out | apply below_alloc | apply pw_below_drewN | apply below_drew1 | refine below_set ?_ GE373.out) | exact HB.out)))); rintro e w51 ⟨rfl, hb⟩; refine ⟨_, rfl, ?_⟩; have n0_ := Aside0.mk (Kd.R_below (by (with_reducible repeat (first | apply Kd.R_alloc | apply Kd.R_drewN | apply Kd.R_drew)); exact HO_7.out) hb); have n1_ := Aside0.mk (blk_below (g := gb373) (o := .cells #[.slice A0_0 l0_0.length c0_0] 24 (0, 0)) (by (with_reducible repeat (first | refine blk_drewN ?_ _ | refine blk_drew ?_ | refine blk_alloc ?_ _)); exact BK373.out) hb); have n2_ := Aside0.mk (below_step (by repeat (first | (with_reducible first | exact HB.out | apply below_alloc | apply pw_below_drewN | apply below_drew1 | refine below_set ?_ GE373.out) | exact HB.out)) hb); clear HO_7; clear BK373; clear HB; have HO_7 := n0_; have BK373 := n1_; have HB := n2_; clear n0_ n1_ n2_; (try clear hb); (try clear hb2); (try clear hk); (try clear hi)) | ((with_reducible refine gate_callee (f := 24) rfl ?_); refine goesL_ (some 44) rfl rfl Tryd.func24 (by kernel_rfl) rfl #[.int .i64 ji34, .int .i64 a1] rfl (by (try simp only [List.map_toArray, List.map_cons, List.map_nil]); first | done | (simp only [hji34]; rfl) | rfl | (simp only [List.length_drop, List.length_take]; rfl)) ?_; (with_reducible refine (phratryref02_Within.calls k2 ji34 a1 true _ A32.out).mono ?_); rintro e w' ⟨rfl, ⟨nd, rfl⟩⟩; refine ⟨_, rfl, ?_⟩; have hcz52_0 : w51.cell? ⟨gb373, 0, none⟩ = some (.slice A0_0 l0_0.length c0_0) := (blk_cell BK373.out 0).trans rfl; have hfz52_0 := blk_frozen BK373.out 0; have p387 : 0 ≤ ((ji34) : Int) := of_decide_eq_true (by first | (with_reducible assumption) | assumption); have q387 : (ji34) < (l0_0.length : Int) := of_decide_eq_true (by first | (with_reducible assumption) | assumption); obtain ⟨ad387, A387_3, c387_3, e387, hx387_0, hx387_1, hx387_2, hx387_3, hl387_3, hi387_3⟩ := at_T45 HR0_0.out (ji34) p387 q387; cases e387; replace hx387_0 := (HB.out.cell (World.block_lt_of_cell? w _ hx387_0)).trans hx387_0; replace hx387_1 := (HB.out.cell (World.block_lt_of_cell? w _ hx387_1)).trans hx387_1; replace hx387_2 := (HB.out.cell (World.block_lt_of_cell? w _ hx387_2)).trans hx387_2; replace hx387_3 := (HB.out.cell (World.block_lt_of_cell? w _ hx387_3)).trans hx387_3; have HR387_3 := Aside0.mk hi387_3; have HC387_3 := Aside0.mk hl387_3; clear hi387_3 hl387_3; replace p387 := eq_true p387; replace q387 := eq_true q387))
                          go_roundg k2
                          case measure => have := HJ3.out; have := HK2.out; omega
                          case rel => exact ⟨(wrap64 (x9_2 + 1)), (by first | rfl | (simp; done) | (simp [*]; done)), H', ⟨by have := HJ3.out; have := HK2.out; omega⟩, ⟨by (with_reducible repeat (first | apply Kd.R_alloc | apply Kd.R_drewN | apply Kd.R_drew)); exact HO_7.out⟩, ⟨by (with_reducible repeat (first | refine blk_drewN ?_ _ | refine blk_drew ?_ | refine blk_alloc ?_ _)); exact BK373.out⟩, ⟨by repeat (first | (with_reducible first | exact HB.out | apply below_alloc | apply pw_below_drewN | apply below_drew1 | refine below_set ?_ GE373.out) | exact HB.out)⟩⟩
                      · rw [if_neg c36] at H
                        exact absurd H (by simp)
                    · rw [if_neg c35] at H
                      exact absurd H (by simp)
                  · replace c33 := Bool.eq_false_iff.mpr c33
                    subst c33
                    have H1 : (if 0 ≤ (wrap64 (2 * x9_2)) then (if (wrap64 (2 * x9_2)) < (l0_0.length : Int) then (if ((rd_T45 l0_0 (wrap64 (2 * x9_2))).f0) > 0 then ((phratrylaw08_names.f l0_0 t381 x9_2).bind fun t390 => (if t390 = 0 then (phratrylaw08_TreeCovers.l0 k2 a1 a2 t381 (wrap64 (x9_2 + 1)) l0_0) else (some false))) else (phratrylaw08_TreeCovers.l0 k2 a1 a2 t381 (wrap64 (x9_2 + 1)) l0_0)) else (none)) else (none)) = some r := by rw [if_neg (show ¬ (false = true) by decide)] at H; exact H
                    clear H
                    have H := H1
                    clear H1
                    obtain ⟨ji53, hji53⟩ : ∃ j_ : Int, (wrap64 (2 * x9_2)) = j_ := ⟨_, rfl⟩
                    replace H : (if 0 ≤ (ji53) then (if (ji53) < (l0_0.length : Int) then (if ((rd_T45 l0_0 (ji53)).f0) > 0 then ((phratrylaw08_names.f l0_0 t381 x9_2).bind fun t390 => (if t390 = 0 then (phratrylaw08_TreeCovers.l0 k2 a1 a2 t381 (wrap64 (x9_2 + 1)) l0_0) else (some false))) else (phratrylaw08_TreeCovers.l0 k2 a1 a2 t381 (wrap64 (x9_2 + 1)) l0_0)) else (none)) else (none)) = some r := by first | (rw [hji53] at H; exact H) | (simp only [hji53] at H ⊢; exact H)
                    (try rw [hji53] at A30)
                    (try rw [hji53] at A32)
                    have hji53w : (IntKind.i64.wrap (2 * x9_2)) = ji53 := (i64_w _).trans hji53
                    by_cases c54 : 0 ≤ (ji53)
                    · rw [if_pos c54] at H
                      have c54b0 : decide (0 ≤ (ji53)) = true := decide_eq_true c54
                      clear c54
                      by_cases c55 : (ji53) < (l0_0.length : Int)
                      · rw [if_pos c55] at H
                        have c55b0 : decide ((ji53) < (l0_0.length : Int)) = true := decide_eq_true c55
                        clear c55
                        by_cases c56 : ((rd_T45 l0_0 (ji53)).f0) > 0
                        · rw [if_pos c56] at H
                          have c56b0 : decide (0 < ((rd_T45 l0_0 (ji53)).f0)) = true := decide_eq_true c56
                          clear c56
                          replace H := Option.bind_eq_some_iff.mp H
                          obtain ⟨t390, A570, H⟩ := H
                          replace H : (if t390 = 0 then (phratrylaw08_TreeCovers.l0 k2 a1 a2 t381 (wrap64 (x9_2 + 1)) l0_0) else (some false)) = some r := H
                          have A57 := Aside0.mk A570
                          clear A570
                          by_cases c58 : t390 = 0
                          · rw [if_pos c58] at H
                            have c58b0 : (t390 == 0) = true := beq_iff_eq.mpr c58
                            have c58b1 : (t390 != 0) = false := bne_eq_false_iff_eq.mpr c58
                            clear c58
                            have H' := Aside0.mk H
                            clear H
                            have hcz59_0 : wr.cell? ⟨gb373, 0, none⟩ = some (.slice A0_0 l0_0.length c0_0) := (blk_cell BK373.out 0).trans rfl
                            have hfz59_0 := blk_frozen BK373.out 0
                            go_wp2_with (first | ((with_reducible refine gate_callee (f := 20) rfl ?_); refine goesL_ (some 37) rfl rfl Tryd.func20 (by kernel_rfl) rfl #[.agg #[.slice A0_0 l0_0.length c0_0]] rfl (by (try simp only [List.map_toArray, List.map_cons, List.map_nil]); first | done | rfl | (simp only [List.length_drop, List.length_take]; rfl)) ?_; (with_reducible refine (tree_Size.calls _ _ l0_0 t385 _ ?side1 ?side2 ?side3 A30.out).mono ?_); (case side1 => repeat (first | exact (Kd.C_below HR0_0.out HB.out) | (with_reducible refine Kd.C_alloc ?_ _) | (with_reducible refine Kd.C_drewN ?_ _) | (with_reducible refine Kd.C_drew ?_))); (case side2 => exact HC0_0.out); (case side3 => repeat (first | exact HT.out | exact TabG.below HT.out HB.out | (with_reducible refine TabG.alloc ?_ _) | (with_reducible refine TabG.drewN ?_ _) | (with_reducible refine TabG.drew ?_) | exact TabG.below HT.out (by repeat (first | (with_reducible first | exact HB.out | apply below_alloc | apply pw_below_drewN | apply below_drew1 | refine below_set ?_ GE373.out) | exact HB.out)))); rintro e w60 ⟨rfl, hb⟩; refine ⟨_, rfl, ?_⟩; have n0_ := Aside0.mk (Kd.R_below (by (with_reducible repeat (first | apply Kd.R_alloc | apply Kd.R_drewN | apply Kd.R_drew)); exact HO_7.out) hb); have n1_ := Aside0.mk (blk_below (g := gb373) (o := .cells #[.slice A0_0 l0_0.length c0_0] 24 (0, 0)) (by (with_reducible repeat (first | refine blk_drewN ?_ _ | refine blk_drew ?_ | refine blk_alloc ?_ _)); exact BK373.out) hb); have n2_ := Aside0.mk (below_step (by repeat (first | (with_reducible first | exact HB.out | apply below_alloc | apply pw_below_drewN | apply below_drew1 | refine below_set ?_ GE373.out) | exact HB.out)) hb); clear HO_7; clear BK373; clear HB; have HO_7 := n0_; have BK373 := n1_; have HB := n2_; clear n0_ n1_ n2_; (try clear hb); (try clear hb2); (try clear hk); (try clear hi)) | ((with_reducible refine gate_callee (f := 24) rfl ?_); refine goesL_ (some 44) rfl rfl Tryd.func24 (by kernel_rfl) rfl #[.int .i64 ji53, .int .i64 a1] rfl (by (try simp only [List.map_toArray, List.map_cons, List.map_nil]); first | done | (simp only [hji53]; rfl) | rfl | (simp only [List.length_drop, List.length_take]; rfl)) ?_; (with_reducible refine (phratryref02_Within.calls k2 ji53 a1 false _ A32.out).mono ?_); rintro e w' ⟨rfl, ⟨nd, rfl⟩⟩; refine ⟨_, rfl, ?_⟩; have hcz61_0 : w60.cell? ⟨gb373, 0, none⟩ = some (.slice A0_0 l0_0.length c0_0) := (blk_cell BK373.out 0).trans rfl; have hfz61_0 := blk_frozen BK373.out 0; have p389 : 0 ≤ ((ji53) : Int) := of_decide_eq_true (by first | (with_reducible assumption) | assumption); have q389 : (ji53) < (l0_0.length : Int) := of_decide_eq_true (by first | (with_reducible assumption) | assumption); obtain ⟨ad389, A389_3, c389_3, e389, hx389_0, hx389_1, hx389_2, hx389_3, hl389_3, hi389_3⟩ := at_T45 HR0_0.out (ji53) p389 q389; cases e389; replace hx389_0 := (HB.out.cell (World.block_lt_of_cell? w _ hx389_0)).trans hx389_0; replace hx389_1 := (HB.out.cell (World.block_lt_of_cell? w _ hx389_1)).trans hx389_1; replace hx389_2 := (HB.out.cell (World.block_lt_of_cell? w _ hx389_2)).trans hx389_2; replace hx389_3 := (HB.out.cell (World.block_lt_of_cell? w _ hx389_3)).trans hx389_3; have HR389_3 := Aside0.mk hi389_3; have HC389_3 := Aside0.mk hl389_3; clear hi389_3 hl389_3; replace p389 := eq_true p389; replace q389 := eq_true q389; obtain ⟨Ao62, co62, eo62⟩ := Kd.R_slice HO_7.out; subst eo62) | (go_at_call 23; (with_reducible refine (phratrylaw08_names.calls _ _ l0_0 _ _ t381 x9_2 t390 _ ?side1 ?side2 ?side3 ?side4 A57.out).mono ?_); (case side1 => repeat (first | exact (Kd.C_below HR0_0.out (by repeat (first | (with_reducible first | exact HB.out | apply below_alloc | apply pw_below_drewN | apply below_drew1 | refine below_set ?_ GE373.out) | exact HB.out))) | (with_reducible refine Kd.C_alloc ?_ _) | (with_reducible refine Kd.C_drewN ?_ _) | (with_reducible refine Kd.C_drew ?_))); (case side2 => exact HC0_0.out); (case side3 => repeat (first | exact (Kd.R_reads' HO_7.out).2.2 | (with_reducible refine Kd.C_alloc ?_ _) | (with_reducible refine Kd.C_drewN ?_ _) | (with_reducible refine Kd.C_drew ?_))); (case side4 => exact (Kd.R_reads' HO_7.out).2.1); rintro e w63 ⟨rfl, hb⟩; have n0_ := Aside0.mk (Kd.R_below (by (with_reducible repeat (first | apply Kd.R_alloc | apply Kd.R_drewN | apply Kd.R_drew)); exact HO_7.out) hb); have n1_ := Aside0.mk (blk_below (g := gb373) (o := .cells #[.slice (some ad389) l0_0.length c0_0] 24 (0, 0)) (by (with_reducible repeat (first | refine blk_drewN ?_ _ | refine blk_drew ?_ | refine blk_alloc ?_ _)); exact BK373.out) hb); have n2_ := Aside0.mk (below_step (by repeat (first | (with_reducible first | exact HB.out | apply below_alloc | apply pw_below_drewN | apply below_drew1 | refine below_set ?_ GE373.out) | exact HB.out)) hb); clear HO_7; clear BK373; clear HB; have HO_7 := n0_; have BK373 := n1_; have HB := n2_; clear n0_ n1_ n2_; (try clear hb); (try clear hb2); (try clear hk); (try clear hi)))
                            go_roundg k2
                            case measure => have := HJ3.out; have := HK2.out; omega
                            case rel => exact ⟨(wrap64 (x9_2 + 1)), (by first | rfl | (simp; done) | (simp [*]; done)), H', ⟨by have := HJ3.out; have := HK2.out; omega⟩, ⟨by (with_reducible repeat (first | apply Kd.R_alloc | apply Kd.R_drewN | apply Kd.R_drew)); exact HO_7.out⟩, ⟨by (with_reducible repeat (first | refine blk_drewN ?_ _ | refine blk_drew ?_ | refine blk_alloc ?_ _)); exact BK373.out⟩, ⟨by repeat (first | (with_reducible first | exact HB.out | apply below_alloc | apply pw_below_drewN | apply below_drew1 | refine below_set ?_ GE373.out) | exact HB.out)⟩⟩
                          · rw [if_neg c58] at H
                            have c58b0 : (t390 == 0) = false := beq_eq_false_iff_ne.mpr c58
                            have c58b1 : (t390 != 0) = true := bne_iff_ne.mpr c58
                            obtain rfl := Option.some.inj H
                            have hcz64_0 : wr.cell? ⟨gb373, 0, none⟩ = some (.slice A0_0 l0_0.length c0_0) := (blk_cell BK373.out 0).trans rfl
                            have hfz64_0 := blk_frozen BK373.out 0
                            go_wp2_with (first | ((with_reducible refine gate_callee (f := 20) rfl ?_); refine goesL_ (some 37) rfl rfl Tryd.func20 (by kernel_rfl) rfl #[.agg #[.slice A0_0 l0_0.length c0_0]] rfl (by (try simp only [List.map_toArray, List.map_cons, List.map_nil]); first | done | rfl | (simp only [List.length_drop, List.length_take]; rfl)) ?_; (with_reducible refine (tree_Size.calls _ _ l0_0 t385 _ ?side1 ?side2 ?side3 A30.out).mono ?_); (case side1 => repeat (first | exact (Kd.C_below HR0_0.out HB.out) | (with_reducible refine Kd.C_alloc ?_ _) | (with_reducible refine Kd.C_drewN ?_ _) | (with_reducible refine Kd.C_drew ?_))); (case side2 => exact HC0_0.out); (case side3 => repeat (first | exact HT.out | exact TabG.below HT.out HB.out | (with_reducible refine TabG.alloc ?_ _) | (with_reducible refine TabG.drewN ?_ _) | (with_reducible refine TabG.drew ?_) | exact TabG.below HT.out (by repeat (first | (with_reducible first | exact HB.out | apply below_alloc | apply pw_below_drewN | apply below_drew1 | refine below_set ?_ GE373.out) | exact HB.out)))); rintro e w65 ⟨rfl, hb⟩; refine ⟨_, rfl, ?_⟩; have n0_ := Aside0.mk (Kd.R_below (by (with_reducible repeat (first | apply Kd.R_alloc | apply Kd.R_drewN | apply Kd.R_drew)); exact HO_7.out) hb); have n1_ := Aside0.mk (blk_below (g := gb373) (o := .cells #[.slice A0_0 l0_0.length c0_0] 24 (0, 0)) (by (with_reducible repeat (first | refine blk_drewN ?_ _ | refine blk_drew ?_ | refine blk_alloc ?_ _)); exact BK373.out) hb); have n2_ := Aside0.mk (below_step (by repeat (first | (with_reducible first | exact HB.out | apply below_alloc | apply pw_below_drewN | apply below_drew1 | refine below_set ?_ GE373.out) | exact HB.out)) hb); clear HO_7; clear BK373; clear HB; have HO_7 := n0_; have BK373 := n1_; have HB := n2_; clear n0_ n1_ n2_; (try clear hb); (try clear hb2); (try clear hk); (try clear hi)) | ((with_reducible refine gate_callee (f := 24) rfl ?_); refine goesL_ (some 44) rfl rfl Tryd.func24 (by kernel_rfl) rfl #[.int .i64 ji53, .int .i64 a1] rfl (by (try simp only [List.map_toArray, List.map_cons, List.map_nil]); first | done | (simp only [hji53]; rfl) | rfl | (simp only [List.length_drop, List.length_take]; rfl)) ?_; (with_reducible refine (phratryref02_Within.calls k2 ji53 a1 false _ A32.out).mono ?_); rintro e w' ⟨rfl, ⟨nd, rfl⟩⟩; refine ⟨_, rfl, ?_⟩; have hcz66_0 : w65.cell? ⟨gb373, 0, none⟩ = some (.slice A0_0 l0_0.length c0_0) := (blk_cell BK373.out 0).trans rfl; have hfz66_0 := blk_frozen BK373.out 0; have p389 : 0 ≤ ((ji53) : Int) := of_decide_eq_true (by first | (with_reducible assumption) | assumption); have q389 : (ji53) < (l0_0.length : Int) := of_decide_eq_true (by first | (with_reducible assumption) | assumption); obtain ⟨ad389, A389_3, c389_3, e389, hx389_0, hx389_1, hx389_2, hx389_3, hl389_3, hi389_3⟩ := at_T45 HR0_0.out (ji53) p389 q389; cases e389; replace hx389_0 := (HB.out.cell (World.block_lt_of_cell? w _ hx389_0)).trans hx389_0; replace hx389_1 := (HB.out.cell (World.block_lt_of_cell? w _ hx389_1)).trans hx389_1; replace hx389_2 := (HB.out.cell (World.block_lt_of_cell? w _ hx389_2)).trans hx389_2; replace hx389_3 := (HB.out.cell (World.block_lt_of_cell? w _ hx389_3)).trans hx389_3; have HR389_3 := Aside0.mk hi389_3; have HC389_3 := Aside0.mk hl389_3; clear hi389_3 hl389_3; replace p389 := eq_true p389; replace q389 := eq_true q389; obtain ⟨Ao67, co67, eo67⟩ := Kd.R_slice HO_7.out; subst eo67) | (go_at_call 23; (with_reducible refine (phratrylaw08_names.calls _ _ l0_0 _ _ t381 x9_2 t390 _ ?side1 ?side2 ?side3 ?side4 A57.out).mono ?_); (case side1 => repeat (first | exact (Kd.C_below HR0_0.out (by repeat (first | (with_reducible first | exact HB.out | apply below_alloc | apply pw_below_drewN | apply below_drew1 | refine below_set ?_ GE373.out) | exact HB.out))) | (with_reducible refine Kd.C_alloc ?_ _) | (with_reducible refine Kd.C_drewN ?_ _) | (with_reducible refine Kd.C_drew ?_))); (case side2 => exact HC0_0.out); (case side3 => repeat (first | exact (Kd.R_reads' HO_7.out).2.2 | (with_reducible refine Kd.C_alloc ?_ _) | (with_reducible refine Kd.C_drewN ?_ _) | (with_reducible refine Kd.C_drew ?_))); (case side4 => exact (Kd.R_reads' HO_7.out).2.1); rintro e w68 ⟨rfl, hb⟩; have n0_ := Aside0.mk (Kd.R_below (by (with_reducible repeat (first | apply Kd.R_alloc | apply Kd.R_drewN | apply Kd.R_drew)); exact HO_7.out) hb); have n1_ := Aside0.mk (blk_below (g := gb373) (o := .cells #[.slice (some ad389) l0_0.length c0_0] 24 (0, 0)) (by (with_reducible repeat (first | refine blk_drewN ?_ _ | refine blk_drew ?_ | refine blk_alloc ?_ _)); exact BK373.out) hb); have n2_ := Aside0.mk (below_step (by repeat (first | (with_reducible first | exact HB.out | apply below_alloc | apply pw_below_drewN | apply below_drew1 | refine below_set ?_ GE373.out) | exact HB.out)) hb); clear HO_7; clear BK373; clear HB; have HO_7 := n0_; have BK373 := n1_; have HB := n2_; clear n0_ n1_ n2_; (try clear hb); (try clear hb2); (try clear hk); (try clear hi)))
                            go_ret
                            exact ⟨by first | rfl | (simp [errW_none, errW_some] <;> rfl) | (simp only [← hji53]; first | rfl | (simp [errW_none, errW_some] <;> rfl)) | (simp [*, errW_none, errW_some] <;> rfl), by repeat (first | (with_reducible first | exact HB.out | apply below_alloc | apply pw_below_drewN | apply below_drew1 | refine below_set ?_ GE373.out) | exact HB.out)⟩
                        · rw [if_neg c56] at H
                          have c56b0 : decide (0 < ((rd_T45 l0_0 (ji53)).f0)) = false := decide_eq_false c56
                          clear c56
                          have H' := Aside0.mk H
                          clear H
                          have hcz69_0 : wr.cell? ⟨gb373, 0, none⟩ = some (.slice A0_0 l0_0.length c0_0) := (blk_cell BK373.out 0).trans rfl
                          have hfz69_0 := blk_frozen BK373.out 0
                          go_wp2_with (first | ((with_reducible refine gate_callee (f := 20) rfl ?_); refine goesL_ (some 37) rfl rfl Tryd.func20 (by kernel_rfl) rfl #[.agg #[.slice A0_0 l0_0.length c0_0]] rfl (by (try simp only [List.map_toArray, List.map_cons, List.map_nil]); first | done | rfl | (simp only [List.length_drop, List.length_take]; rfl)) ?_; (with_reducible refine (tree_Size.calls _ _ l0_0 t385 _ ?side1 ?side2 ?side3 A30.out).mono ?_); (case side1 => repeat (first | exact (Kd.C_below HR0_0.out HB.out) | (with_reducible refine Kd.C_alloc ?_ _) | (with_reducible refine Kd.C_drewN ?_ _) | (with_reducible refine Kd.C_drew ?_))); (case side2 => exact HC0_0.out); (case side3 => repeat (first | exact HT.out | exact TabG.below HT.out HB.out | (with_reducible refine TabG.alloc ?_ _) | (with_reducible refine TabG.drewN ?_ _) | (with_reducible refine TabG.drew ?_) | exact TabG.below HT.out (by repeat (first | (with_reducible first | exact HB.out | apply below_alloc | apply pw_below_drewN | apply below_drew1 | refine below_set ?_ GE373.out) | exact HB.out)))); rintro e w70 ⟨rfl, hb⟩; refine ⟨_, rfl, ?_⟩; have n0_ := Aside0.mk (Kd.R_below (by (with_reducible repeat (first | apply Kd.R_alloc | apply Kd.R_drewN | apply Kd.R_drew)); exact HO_7.out) hb); have n1_ := Aside0.mk (blk_below (g := gb373) (o := .cells #[.slice A0_0 l0_0.length c0_0] 24 (0, 0)) (by (with_reducible repeat (first | refine blk_drewN ?_ _ | refine blk_drew ?_ | refine blk_alloc ?_ _)); exact BK373.out) hb); have n2_ := Aside0.mk (below_step (by repeat (first | (with_reducible first | exact HB.out | apply below_alloc | apply pw_below_drewN | apply below_drew1 | refine below_set ?_ GE373.out) | exact HB.out)) hb); clear HO_7; clear BK373; clear HB; have HO_7 := n0_; have BK373 := n1_; have HB := n2_; clear n0_ n1_ n2_; (try clear hb); (try clear hb2); (try clear hk); (try clear hi)) | ((with_reducible refine gate_callee (f := 24) rfl ?_); refine goesL_ (some 44) rfl rfl Tryd.func24 (by kernel_rfl) rfl #[.int .i64 ji53, .int .i64 a1] rfl (by (try simp only [List.map_toArray, List.map_cons, List.map_nil]); first | done | (simp only [hji53]; rfl) | rfl | (simp only [List.length_drop, List.length_take]; rfl)) ?_; (with_reducible refine (phratryref02_Within.calls k2 ji53 a1 false _ A32.out).mono ?_); rintro e w' ⟨rfl, ⟨nd, rfl⟩⟩; refine ⟨_, rfl, ?_⟩; have hcz71_0 : w70.cell? ⟨gb373, 0, none⟩ = some (.slice A0_0 l0_0.length c0_0) := (blk_cell BK373.out 0).trans rfl; have hfz71_0 := blk_frozen BK373.out 0; have p389 : 0 ≤ ((ji53) : Int) := of_decide_eq_true (by first | (with_reducible assumption) | assumption); have q389 : (ji53) < (l0_0.length : Int) := of_decide_eq_true (by first | (with_reducible assumption) | assumption); obtain ⟨ad389, A389_3, c389_3, e389, hx389_0, hx389_1, hx389_2, hx389_3, hl389_3, hi389_3⟩ := at_T45 HR0_0.out (ji53) p389 q389; cases e389; replace hx389_0 := (HB.out.cell (World.block_lt_of_cell? w _ hx389_0)).trans hx389_0; replace hx389_1 := (HB.out.cell (World.block_lt_of_cell? w _ hx389_1)).trans hx389_1; replace hx389_2 := (HB.out.cell (World.block_lt_of_cell? w _ hx389_2)).trans hx389_2; replace hx389_3 := (HB.out.cell (World.block_lt_of_cell? w _ hx389_3)).trans hx389_3; have HR389_3 := Aside0.mk hi389_3; have HC389_3 := Aside0.mk hl389_3; clear hi389_3 hl389_3; replace p389 := eq_true p389; replace q389 := eq_true q389))
                          go_roundg k2
                          case measure => have := HJ3.out; have := HK2.out; omega
                          case rel => exact ⟨(wrap64 (x9_2 + 1)), (by first | rfl | (simp; done) | (simp [*]; done)), H', ⟨by have := HJ3.out; have := HK2.out; omega⟩, ⟨by (with_reducible repeat (first | apply Kd.R_alloc | apply Kd.R_drewN | apply Kd.R_drew)); exact HO_7.out⟩, ⟨by (with_reducible repeat (first | refine blk_drewN ?_ _ | refine blk_drew ?_ | refine blk_alloc ?_ _)); exact BK373.out⟩, ⟨by repeat (first | (with_reducible first | exact HB.out | apply below_alloc | apply pw_below_drewN | apply below_drew1 | refine below_set ?_ GE373.out) | exact HB.out)⟩⟩
                      · rw [if_neg c55] at H
                        exact absurd H (by simp)
                    · rw [if_neg c54] at H
                      exact absurd H (by simp)
                · rw [if_neg c31] at H
                  have c31b0 : decide (x9_2 < t385) = false := decide_eq_false c31
                  clear c31
                  have H' := Aside0.mk H
                  clear H
                  have hcz72_0 : wr.cell? ⟨gb373, 0, none⟩ = some (.slice A0_0 l0_0.length c0_0) := (blk_cell BK373.out 0).trans rfl
                  have hfz72_0 := blk_frozen BK373.out 0
                  go_wp2_with (first | ((with_reducible refine gate_callee (f := 20) rfl ?_); refine goesL_ (some 37) rfl rfl Tryd.func20 (by kernel_rfl) rfl #[.agg #[.slice A0_0 l0_0.length c0_0]] rfl (by (try simp only [List.map_toArray, List.map_cons, List.map_nil]); first | done | rfl | (simp only [List.length_drop, List.length_take]; rfl)) ?_; (with_reducible refine (tree_Size.calls _ _ l0_0 t385 _ ?side1 ?side2 ?side3 A30.out).mono ?_); (case side1 => repeat (first | exact (Kd.C_below HR0_0.out HB.out) | (with_reducible refine Kd.C_alloc ?_ _) | (with_reducible refine Kd.C_drewN ?_ _) | (with_reducible refine Kd.C_drew ?_))); (case side2 => exact HC0_0.out); (case side3 => repeat (first | exact HT.out | exact TabG.below HT.out HB.out | (with_reducible refine TabG.alloc ?_ _) | (with_reducible refine TabG.drewN ?_ _) | (with_reducible refine TabG.drew ?_) | exact TabG.below HT.out (by repeat (first | (with_reducible first | exact HB.out | apply below_alloc | apply pw_below_drewN | apply below_drew1 | refine below_set ?_ GE373.out) | exact HB.out)))); rintro e w73 ⟨rfl, hb⟩; refine ⟨_, rfl, ?_⟩; have n0_ := Aside0.mk (Kd.R_below (by (with_reducible repeat (first | apply Kd.R_alloc | apply Kd.R_drewN | apply Kd.R_drew)); exact HO_7.out) hb); have n1_ := Aside0.mk (blk_below (g := gb373) (o := .cells #[.slice A0_0 l0_0.length c0_0] 24 (0, 0)) (by (with_reducible repeat (first | refine blk_drewN ?_ _ | refine blk_drew ?_ | refine blk_alloc ?_ _)); exact BK373.out) hb); have n2_ := Aside0.mk (below_step (by repeat (first | (with_reducible first | exact HB.out | apply below_alloc | apply pw_below_drewN | apply below_drew1 | refine below_set ?_ GE373.out) | exact HB.out)) hb); clear HO_7; clear BK373; clear HB; have HO_7 := n0_; have BK373 := n1_; have HB := n2_; clear n0_ n1_ n2_; (try clear hb); (try clear hb2); (try clear hk); (try clear hi)))
                  go_meet
                  case rel => exact ⟨_, H', ⟨by have := HJ3.out; have := HK2.out; first | omega | exact Nat.le_refl _⟩, ⟨by (with_reducible repeat (first | refine blk_drewN ?_ _ | refine blk_drew ?_ | refine blk_alloc ?_ _)); exact BK373.out⟩, ⟨by repeat (first | (with_reducible first | exact HB.out | apply below_alloc | apply pw_below_drewN | apply below_drew1 | refine below_set ?_ GE373.out) | exact HB.out)⟩⟩
          · rw [if_neg c29] at H
            have c29b0 : (t384 == 0) = false := beq_eq_false_iff_ne.mpr c29
            have c29b1 : (t384 != 0) = true := bne_iff_ne.mpr c29
            (first | rw [c29b0] | (simp only [i64_w, i32_w]; rw [c29b0]) | skip)
            have H' := Aside0.mk H
            clear H
            go_wp2
            go_meet
            case rel => exact ⟨_, H', ⟨by have := HJ3.out; first | omega | exact Nat.le_refl _⟩, ⟨by (with_reducible repeat (first | refine blk_drewN ?_ _ | refine blk_drew ?_ | refine blk_alloc ?_ _)); exact BK373.out⟩, ⟨by repeat (first | (with_reducible first | exact HB.out | apply below_alloc | apply pw_below_drewN | apply below_drew1 | refine below_set ?_ GE373.out) | exact HB.out)⟩⟩
        case rest =>
          clear HC26
          try clear c1
          try clear c2
          try clear p2
          try clear c3
          try clear p3
          try clear q3
          try clear hx3
          try clear c5
          try clear c6
          try clear p6
          try clear c8
          try clear c9
          try clear c11
          try clear c19
          try clear c20
          try clear c22
          try clear c24
          try clear c29
          try clear c29b0
          try clear c29b1
          try clear c31
          try clear c31b0
          try clear c33
          try clear c35
          try clear c35b0
          try clear c36
          try clear c36b0
          try clear c37
          try clear c37b0
          try clear c38
          try clear p38
          try clear q38
          try clear hx38
          try clear c39
          try clear c39b0
          try clear c39b1
          try clear c54
          try clear c54b0
          try clear c55
          try clear c55b0
          try clear c56
          try clear c56b0
          try clear c58
          try clear c58b0
          try clear c58b1
          try clear p64
          try clear hcz15_0
          try clear hcz20_0
          try clear hcz27_0
          try clear hcz40_0
          try clear hcz42_0
          try clear hcz45_0
          try clear hcz47_0
          try clear hcz50_0
          try clear hcz52_0
          try clear hcz59_0
          try clear hcz61_0
          try clear hcz64_0
          try clear hcz66_0
          try clear hcz69_0
          try clear hcz71_0
          try clear hcz72_0
          try clear hcz9_0
          try clear hfz15_0
          try clear hfz20_0
          try clear hfz27_0
          try clear hfz40_0
          try clear hfz42_0
          try clear hfz45_0
          try clear hfz47_0
          try clear hfz50_0
          try clear hfz52_0
          try clear hfz59_0
          try clear hfz61_0
          try clear hfz64_0
          try clear hfz66_0
          try clear hfz69_0
          try clear hfz71_0
          try clear hfz72_0
          try clear hfz9_0
          try clear hx387_0
          try clear hx387_1
          try clear hx387_2
          try clear hx387_3
          try clear hx389_0
          try clear hx389_1
          try clear hx389_2
          try clear hx389_3
          try clear p2
          try clear p387
          try clear p389
          try clear q387
          try clear q389
          obtain ⟨kq, HA, HJ25, BK373, HB⟩ := hcut
          cases kq with
          | zero => exact absurd HA.out (by simp [phratrylaw08_TreeCovers.j2])
          | succ kj25 =>
            have H := HA.out
            clear HA
            simp only [phratrylaw08_TreeCovers.j2] at H
            replace H := Option.bind_eq_some_iff.mp H
            obtain ⟨⟨t391, t394⟩, A740, H⟩ := H
            replace H : (if t394 = 0 then (phratrylaw08_TreeCovers.l1 kj25 a2 t391 ([] : List Int) 0 l0_0) else ((phratrylaw08_alive.f kj25).bind fun t395 => (some t395))) = some r := H
            have A74 := Aside0.mk A740
            clear A740
            by_cases c75 : t394 = 0
            · rw [if_pos c75] at H
              have c75b0 : (t394 == 0) = true := beq_iff_eq.mpr c75
              have c75b1 : (t394 != 0) = false := bne_eq_false_iff_eq.mpr c75
              clear c75
              have H' := Aside0.mk H
              clear H
              have hcz76_0 : wc.cell? ⟨gb373, 0, none⟩ = some (.slice A0_0 l0_0.length c0_0) := (blk_cell BK373.out 0).trans rfl
              have hfz76_0 := blk_frozen BK373.out 0
              go_wp2_with (first | ((with_reducible refine gate_callee (f := 25) rfl ?_); refine goesL_ (some 64) rfl rfl Tryd.func25 (by kernel_rfl) rfl #[.agg #[.slice A0_0 l0_0.length c0_0], .int .i64 a2, .slice none 0 0] rfl (by (try simp only [List.map_toArray, List.map_cons, List.map_nil]); first | done | rfl | (simp only [List.length_drop, List.length_take]; rfl)) ?_; (refine (tree_Targets.calls _ _ l0_0 a2 _ _ ([] : List Int) t391 t394 _ ?side1 ?side2 ?side3 ?side4 ?side5 A74.out).mono ?_); (case side1 => repeat (first | exact (Kd.C_below HR0_0.out HB.out) | (with_reducible refine Kd.C_alloc ?_ _) | (with_reducible refine Kd.C_drewN ?_ _) | (with_reducible refine Kd.C_drew ?_))); (case side2 => exact HC0_0.out); (case side3 => exact Kd.C_nil _ _); (case side4 => exact Nat.le_refl _); (case side5 => repeat (first | exact HT.out | exact TabG.below HT.out HB.out | (with_reducible refine TabG.alloc ?_ _) | (with_reducible refine TabG.drewN ?_ _) | (with_reducible refine TabG.drew ?_) | exact TabG.below HT.out (by repeat (first | (with_reducible first | exact HB.out | apply below_alloc | apply pw_below_drewN | apply below_drew1 | refine below_set ?_ GE373.out) | exact HB.out)))); rintro e w77 ⟨v392, rfl, ho0, hb⟩; refine ⟨_, rfl, ?_⟩; have n0_ := Aside0.mk (Kd.S_lower ho0 (below_size (by repeat (first | (with_reducible first | exact HB.out | apply below_alloc | apply pw_below_drewN | apply below_drew1 | refine below_set ?_ GE373.out) | exact HB.out)))); have n1_ := Aside0.mk (blk_below (g := gb373) (o := .cells #[.slice A0_0 l0_0.length c0_0] 24 (0, 0)) (by (with_reducible repeat (first | refine blk_drewN ?_ _ | refine blk_drew ?_ | refine blk_alloc ?_ _)); exact BK373.out) hb); have n2_ := Aside0.mk (below_step (by repeat (first | (with_reducible first | exact HB.out | apply below_alloc | apply pw_below_drewN | apply below_drew1 | refine below_set ?_ GE373.out) | exact HB.out)) hb); clear BK373; clear HB; have HO393 := n0_; have BK373 := n1_; have HB := n2_; clear n0_ n1_ n2_; (try clear hb); (try clear hb2); (try clear hk); (try clear hi); (try clear ho0)))
              go_loopg [13, 14] kj25 (fun kq v13 v14 w' => ∃ (x13_3 : List Int) (x14_3 : Int), v14 = .int .i64 x14_3 ∧ Aside0 (phratrylaw08_TreeCovers.l1 kq a2 t391 x13_3 x14_3 l0_0 = some r) ∧ Aside0 (kq ≤ kj25) ∧ Aside0 (Kd.S (Kd.slice 3 (Kd.int .i64)) 32 w' w.heap.size (fun k_ => some k_ ≠ (v13 : Value).ownBlock) v392 t391) ∧ Aside0 (Kd.R (Kd.int .i64) 3 w' w.heap.size (fun _ => True) v13 x13_3) ∧ Aside0 (w'.heap[gb373]? = some (.cells #[(.slice A0_0 l0_0.length c0_0)] 24 (0, 0))) ∧ Aside0 (Below w.heap.size w w'))
              case atStart => exact ⟨(([] : List Int)), (0), (by first | rfl | (simp; done) | (simp [*]; done)), H', ⟨Nat.le_refl _⟩, ⟨by (with_reducible repeat (first | apply Kd.S_alloc | apply Kd.S_drewN | apply Kd.S_drew)); exact Kd.S_mono HO393.out (fun _ hk => (by simp [Value.ownBlock]))⟩, ⟨by first | exact Kd.R_nil _ _ _ _ _ | exact Kd.N_nil _ _ _ _ _ | exact Kd.V_nil _ _ _ _ _ | exact Kd.Q_nil _ _ _ _ _ | exact Kd.S_nil _ _ _ _ _⟩, ⟨by (with_reducible repeat (first | refine blk_drewN ?_ _ | refine blk_drew ?_ | refine blk_alloc ?_ _)); exact BK373.out⟩, ⟨by repeat (first | (with_reducible first | exact HB.out | apply below_alloc | apply pw_below_drewN | apply below_drew1 | refine below_set ?_ GE373.out) | exact HB.out)⟩⟩
              case round =>
                clear H'
                try clear c1
                try clear c2
                try clear p2
                try clear c3
                try clear p3
                try clear q3
                try clear hx3
                try clear c5
                try clear c6
                try clear p6
                try clear c7
                try clear c8
                try clear c9
                try clear c11
                try clear c19
                try clear c20
                try clear c22
                try clear c24
                try clear c25
                try clear c29
                try clear c29b0
                try clear c29b1
                try clear c31
                try clear c31b0
                try clear c33
                try clear c35
                try clear c35b0
                try clear c36
                try clear c36b0
                try clear c37
                try clear c37b0
                try clear c38
                try clear p38
                try clear q38
                try clear hx38
                try clear c39
                try clear c39b0
                try clear c39b1
                try clear c54
                try clear c54b0
                try clear c55
                try clear c55b0
                try clear c56
                try clear c56b0
                try clear c58
                try clear c58b0
                try clear c58b1
                try clear p64
                try clear c75
                try clear c75b0
                try clear c75b1
                try clear hcz15_0
                try clear hcz20_0
                try clear hcz27_0
                try clear hcz40_0
                try clear hcz42_0
                try clear hcz45_0
                try clear hcz47_0
                try clear hcz50_0
                try clear hcz52_0
                try clear hcz59_0
                try clear hcz61_0
                try clear hcz64_0
                try clear hcz66_0
                try clear hcz69_0
                try clear hcz71_0
                try clear hcz72_0
                try clear hcz76_0
                try clear hcz9_0
                try clear hfz15_0
                try clear hfz20_0
                try clear hfz27_0
                try clear hfz40_0
                try clear hfz42_0
                try clear hfz45_0
                try clear hfz47_0
                try clear hfz50_0
                try clear hfz52_0
                try clear hfz59_0
                try clear hfz61_0
                try clear hfz64_0
                try clear hfz66_0
                try clear hfz69_0
                try clear hfz71_0
                try clear hfz72_0
                try clear hfz76_0
                try clear hfz9_0
                try clear hx387_0
                try clear hx387_1
                try clear hx387_2
                try clear hx387_3
                try clear hx389_0
                try clear hx389_1
                try clear hx389_2
                try clear hx389_3
                try clear p2
                try clear p3
                try clear p38
                try clear p387
                try clear p389
                try clear p6
                try clear p64
                try clear q3
                try clear q38
                try clear q387
                try clear q389
                obtain ⟨x13_3, x14_3, rfl, HA, HK3, HO_11, HO_13, BK373, HB⟩ := hrel
                cases gk with
                | zero => exact absurd HA.out (by simp [phratrylaw08_TreeCovers.l1])
                | succ k3 =>
                  have H := HA.out
                  clear HA
                  simp only [phratrylaw08_TreeCovers.l1] at H
                  by_cases c78 : x14_3 < (t391.length : Int)
                  · rw [if_pos c78] at H
                    have c78b0 : decide (x14_3 < (t391.length : Int)) = true := decide_eq_true c78
                    clear c78
                    by_cases c79 : 0 ≤ x14_3
                    · rw [if_pos c79] at H
                      have c79b0 : decide (0 ≤ x14_3) = true := decide_eq_true c79
                      clear c79
                      by_cases c80 : x13_3.length + (rd_L1 t391 x14_3).length < 17592186044416
                      · rw [if_pos c80] at H
                        have LMc80 := Aside0.mk c80
                        clear c80
                        obtain ⟨y397, hy397⟩ : ∃ y_ : List Int, y_ = (x13_3 ++ (rd_L1 t391 x14_3)) := ⟨_, rfl⟩
                        replace H : (phratrylaw08_TreeCovers.l1 k3 a2 t391 y397 (wrap64 (x14_3 + 1)) l0_0) = some r := by first | (rw [hy397]; with_reducible exact H) | (have H2_ := (Option.bind_some _ _).symm.trans H; rw [hy397]; with_reducible exact H2_) | (have H2_ := (Option.bind_some _ _).symm.trans H; with_reducible exact H2_) | with_reducible exact H | (rw [hy397]; exact H) | exact H
                        have Ny397 := Aside0.mk hy397
                        clear hy397
                        have H' := Aside0.mk H
                        clear H
                        obtain ⟨Ao81, co81, eo81⟩ := Kd.S_slice HO_11.out
                        subst eo81
                        have p396 : 0 ≤ (x14_3 : Int) := of_decide_eq_true (by first | (with_reducible assumption) | assumption)
                        have q396 : x14_3 < (t391.length : Int) := of_decide_eq_true (by first | (with_reducible assumption) | assumption)
                        obtain ⟨ad396, A396_0, c396_0, e396, hx396_0, hl396_0, hi396_0⟩ := at_L1 (Kd.S_reads' HO_11.out).2.2 x14_3 p396 q396
                        cases e396
                        obtain ⟨ce396, hce396, hMe396, hcc396⟩ := Kd.S_get HO_11.out [] x14_3 p396 (by first | exact q396 | exact of_decide_eq_true (by first | (with_reducible assumption) | assumption) | (have e_ := (Kd.S_reads' HO_11.out).1; omega))
                        obtain ⟨ve396_0, rfl, ge396_0⟩ := hMe396
                        have hv396_0 := hcc396 0 _ rfl
                        rw [Nat.add_zero, show ((Kd.slice 3 (Kd.int .i64))).sz = 1 from rfl, Nat.mul_one] at hv396_0
                        replace hv396_0 := Option.some.inj (hv396_0.symm.trans hx396_0)
                        rw [hv396_0] at ge396_0
                        have HL396_0 := Aside0.mk (show Kd.R (Kd.int .i64) 3 _ _ _ _ (rd_L1 t391 x14_3) from ge396_0)
                        clear hv396_0 ge396_0
                        clear hcc396 hce396
                        have HR396_0 := Aside0.mk hi396_0
                        have HC396_0 := Aside0.mk hl396_0
                        clear hi396_0 hl396_0
                        replace p396 := eq_true p396
                        replace q396 := eq_true q396
                        go_wp2_with (first | ((with_reducible refine gate_builtin (b := .append) (xs := #[.tmp 76, .tmp 80]) rfl ?_); at_builtin; refine Kd.R_append_rows (Kd.int .i64) (w0 := w) w.heap.size rfl (.tmp 76) (.tmp 80) 32 3 (.int .i64 0) 8 rfl Tryd.underlying32 info3 rfl (by decide) (by omega) u13 x13_3 (rd_L1 t391 x14_3) _ _ _ (fun _ => True) (fun _ => False) rfl rfl ?aO ?aR (fun _ _ h => h) (fun _ h => h.elim) ?aF ?aB ?aS ?aL ?_; (case aR => repeat (first | exact (by repeat (first | (with_reducible exact HR396_0.out) | (with_reducible refine Kd.C_alloc ?_ _) | (with_reducible refine Kd.C_drewN ?_ _) | (with_reducible refine Kd.C_drew ?_) | exact HR396_0.out)) | (with_reducible refine Kd.C_alloc ?_ _) | (with_reducible refine Kd.C_drewN ?_ _) | (with_reducible refine Kd.C_drew ?_))); (case aB => exact (by repeat (first | (with_reducible first | exact HB.out | apply below_alloc | apply pw_below_drewN | apply below_drew1 | refine below_set ?_ GE373.out) | exact HB.out))); (case aF => exact (fun _ _ => trivial)); (case aO => exact (by (with_reducible repeat (first | apply Kd.R_alloc | apply Kd.R_drewN | apply Kd.R_drew)); exact HO_13.out)); (case aS => exact (below_size (by repeat (first | (with_reducible first | exact HB.out | apply below_alloc | apply pw_below_drewN | apply below_drew1 | refine below_set ?_ GE373.out) | exact HB.out)))); (case aL => have := LMc80.out; omega); intro v398 w82 ho hb hg hat; rw [← Ny397.out] at ho; have n0_ := Aside0.mk (Kd.S_after (ok := (fun _ => True)) (by (with_reducible repeat (first | apply Kd.S_alloc | apply Kd.S_drewN | apply Kd.S_drew)); exact Kd.S_mono HO_11.out (fun _ hk => ⟨trivial, hk⟩)) hg hat); have n1_ := Aside0.mk (blk_grown (g := gb373) (o := .cells #[.slice A0_0 l0_0.length c0_0] 24 (0, 0)) (by (with_reducible repeat (first | refine blk_drewN ?_ _ | refine blk_drew ?_ | refine blk_alloc ?_ _)); exact BK373.out) hg (Kd.R_ne HO_13.out BK373.out (by decide))); have n2_ := Aside0.mk (Kd.R_after (ok := (fun k_ => some k_ ≠ (.slice (some ad396) t391.length co81 : Value).ownBlock)) (by (with_reducible repeat (first | apply Kd.R_alloc | apply Kd.R_drewN | apply Kd.R_drew)); exact Kd.R_mono HL396_0.out (fun _ hk => ⟨hk.2, hk.1⟩)) hg hat); have n3_ := Aside0.mk (hb); have n4_ := Aside0.mk (ho); clear HO_11; clear BK373; clear HL396_0; clear HB; clear HO_13; have HO_11 := n0_; have BK373 := n1_; have HL396_0 := n2_; have HB := n3_; have HO399 := n4_; clear n0_ n1_ n2_ n3_ n4_; clear ho hb hg hat))
                        go_roundg k3
                        case measure => have := HJ3.out; have := HJ25.out; have := HK3.out; omega
                        case rel => exact ⟨(y397), (wrap64 (x14_3 + 1)), (by first | rfl | (simp; done) | (simp [*]; done)), H', ⟨by have := HJ3.out; have := HJ25.out; have := HK3.out; omega⟩, ⟨by (with_reducible repeat (first | apply Kd.S_alloc | apply Kd.S_drewN | apply Kd.S_drew)); exact Kd.S_mono HO_11.out (fun _ hk => hk.2)⟩, ⟨by (with_reducible repeat (first | apply Kd.R_alloc | apply Kd.R_drewN | apply Kd.R_drew)); exact HO399.out⟩, ⟨by (with_reducible repeat (first | refine blk_drewN ?_ _ | refine blk_drew ?_ | refine blk_alloc ?_ _)); exact BK373.out⟩, ⟨by repeat (first | (with_reducible first | exact HB.out | apply below_alloc | apply pw_below_drewN | apply below_drew1 | refine below_set ?_ GE373.out) | exact HB.out)⟩⟩
                      · rw [if_neg c80] at H
                        exact absurd H (by simp)
                    · rw [if_neg c79] at H
                      exact absurd H (by simp)
                  · rw [if_neg c78] at H
                    have c78b0 : decide (x14_3 < (t391.length : Int)) = false := decide_eq_false c78
                    clear c78
                    have H' := Aside0.mk H
                    clear H
                    obtain ⟨Ao83, co83, eo83⟩ := Kd.S_slice HO_11.out
                    subst eo83
                    go_wp2
                    go_loopg [15] k3 (fun kq v15 w' => ∃ (x15_4 : Int), v15 = .int .i64 x15_4 ∧ Aside0 (phratrylaw08_TreeCovers.l2 kq a2 x13_3 x15_4 l0_0 = some r) ∧ Aside0 (kq ≤ k3) ∧ Aside0 (Kd.R (Kd.int .i64) 3 w' w.heap.size (fun _ => True) u13 x13_3) ∧ Aside0 (w'.heap[gb373]? = some (.cells #[(.slice A0_0 l0_0.length c0_0)] 24 (0, 0))) ∧ Aside0 (Below w.heap.size w w'))
                    case atStart => exact ⟨(0), (by first | rfl | (simp; done) | (simp [*]; done)), H', ⟨Nat.le_refl _⟩, ⟨by (with_reducible repeat (first | apply Kd.R_alloc | apply Kd.R_drewN | apply Kd.R_drew)); exact HO_13.out⟩, ⟨by (with_reducible repeat (first | refine blk_drewN ?_ _ | refine blk_drew ?_ | refine blk_alloc ?_ _)); exact BK373.out⟩, ⟨by repeat (first | (with_reducible first | exact HB.out | apply below_alloc | apply pw_below_drewN | apply below_drew1 | refine below_set ?_ GE373.out) | exact HB.out)⟩⟩
                    case round =>
                      clear H'
                      try clear c1
                      try clear c2
                      try clear p2
                      try clear c3
                      try clear p3
                      try clear q3
                      try clear hx3
                      try clear c5
                      try clear c6
                      try clear p6
                      try clear c7
                      try clear c8
                      try clear c9
                      try clear c11
                      try clear c19
                      try clear c20
                      try clear c22
                      try clear c24
                      try clear c25
                      try clear c29
                      try clear c29b0
                      try clear c29b1
                      try clear c31
                      try clear c31b0
                      try clear c33
                      try clear c35
                      try clear c35b0
                      try clear c36
                      try clear c36b0
                      try clear c37
                      try clear c37b0
                      try clear c38
                      try clear p38
                      try clear q38
                      try clear hx38
                      try clear c39
                      try clear c39b0
                      try clear c39b1
                      try clear p39
                      try clear q39
                      try clear hx39
                      try clear c54
                      try clear c54b0
                      try clear c55
                      try clear c55b0
                      try clear c56
                      try clear c56b0
                      try clear c58
                      try clear c58b0
                      try clear c58b1
                      try clear p64
                      try clear c75
                      try clear c75b0
                      try clear c75b1
                      try clear c78
                      try clear c78b0
                      try clear c79
                      try clear c79b0
                      try clear c80
                      try clear hcz15_0
                      try clear hcz20_0
                      try clear hcz27_0
                      try clear hcz40_0
                      try clear hcz42_0
                      try clear hcz45_0
                      try clear hcz47_0
                      try clear hcz50_0
                      try clear hcz52_0
                      try clear hcz59_0
                      try clear hcz61_0
                      try clear hcz64_0
                      try clear hcz66_0
                      try clear hcz69_0
                      try clear hcz71_0
                      try clear hcz72_0
                      try clear hcz76_0
                      try clear hcz9_0
                      try clear hfz15_0
                      try clear hfz20_0
                      try clear hfz27_0
                      try clear hfz40_0
                      try clear hfz42_0
                      try clear hfz45_0
                      try clear hfz47_0
                      try clear hfz50_0
                      try clear hfz52_0
                      try clear hfz59_0
                      try clear hfz61_0
                      try clear hfz64_0
                      try clear hfz66_0
                      try clear hfz69_0
                      try clear hfz71_0
                      try clear hfz72_0
                      try clear hfz76_0
                      try clear hfz9_0
                      try clear hx387_0
                      try clear hx387_1
                      try clear hx387_2
                      try clear hx387_3
                      try clear hx389_0
                      try clear hx389_1
                      try clear hx389_2
                      try clear hx389_3
                      try clear hx396_0
                      try clear p2
                      try clear p3
                      try clear p38
                      try clear p387
                      try clear p389
                      try clear p396
                      try clear p6
                      try clear p64
                      try clear q3
                      try clear q38
                      try clear q387
                      try clear q389
                      try clear q396
                      obtain ⟨x15_4, rfl, HA, HK4, HO_13, BK373, HB⟩ := hrel
                      cases gk with
                      | zero => exact absurd HA.out (by simp [phratrylaw08_TreeCovers.l2])
                      | succ k4 =>
                        have H := HA.out
                        clear HA
                        simp only [phratrylaw08_TreeCovers.l2] at H
                        replace H := Option.bind_eq_some_iff.mp H
                        obtain ⟨t400, A840, H⟩ := H
                        replace H : (if x15_4 < t400 then (if x15_4 = a2 then (if 0 ≤ (wrap64 (2 * x15_4)) then (if (wrap64 (2 * x15_4)) < (l0_0.length : Int) then (if ((rd_T45 l0_0 (wrap64 (2 * x15_4))).f0) > 0 then ((phratrylaw08_names.f l0_0 x13_3 x15_4).bind fun t403 => (if t403 = 0 then (phratrylaw08_TreeCovers.l2 k4 a2 x13_3 (wrap64 (x15_4 + 1)) l0_0) else (some false))) else (phratrylaw08_TreeCovers.l2 k4 a2 x13_3 (wrap64 (x15_4 + 1)) l0_0)) else (none)) else (none)) else (if 0 ≤ (wrap64 (2 * x15_4)) then (if (wrap64 (2 * x15_4)) < (l0_0.length : Int) then (if ((rd_T45 l0_0 (wrap64 (2 * x15_4))).f0) > 0 then ((phratrylaw08_names.f l0_0 x13_3 x15_4).bind fun t405 => (if t405 = 1 then (phratrylaw08_TreeCovers.l2 k4 a2 x13_3 (wrap64 (x15_4 + 1)) l0_0) else (some false))) else (phratrylaw08_TreeCovers.l2 k4 a2 x13_3 (wrap64 (x15_4 + 1)) l0_0)) else (none)) else (none))) else ((phratrylaw08_alive.f k4).bind fun t401 => (some t401))) = some r := H
                        have A84 := Aside0.mk A840
                        clear A840
                        by_cases c85 : x15_4 < t400
                        · rw [if_pos c85] at H
                          have c85b0 : decide (x15_4 < t400) = true := decide_eq_true c85
                          clear c85
                          by_cases c86 : x15_4 = a2
                          · rw [if_pos c86] at H
                            have c86b0 : (x15_4 == a2) = true := beq_iff_eq.mpr c86
                            have c86b1 : (x15_4 != a2) = false := bne_eq_false_iff_eq.mpr c86
                            clear c86
                            obtain ⟨ji87, hji87⟩ : ∃ j_ : Int, (wrap64 (2 * x15_4)) = j_ := ⟨_, rfl⟩
                            replace H : (if 0 ≤ (ji87) then (if (ji87) < (l0_0.length : Int) then (if ((rd_T45 l0_0 (ji87)).f0) > 0 then ((phratrylaw08_names.f l0_0 x13_3 x15_4).bind fun t403 => (if t403 = 0 then (phratrylaw08_TreeCovers.l2 k4 a2 x13_3 (wrap64 (x15_4 + 1)) l0_0) else (some false))) else (phratrylaw08_TreeCovers.l2 k4 a2 x13_3 (wrap64 (x15_4 + 1)) l0_0)) else (none)) else (none)) = some r := by first | (rw [hji87] at H; exact H) | (simp only [hji87] at H ⊢; exact H)
                            (try rw [hji87] at A84)
                            have hji87w : (IntKind.i64.wrap (2 * x15_4)) = ji87 := (i64_w _).trans hji87
                            by_cases c88 : 0 ≤ (ji87)
                            · rw [if_pos c88] at H
                              have c88b0 : decide (0 ≤ (ji87)) = true := decide_eq_true c88
                              clear c88
                              by_cases c89 : (ji87) < (l0_0.length : Int)
                              · rw [if_pos c89] at H
                                have c89b0 : decide ((ji87) < (l0_0.length : Int)) = true := decide_eq_true c89
                                clear c89
                                by_cases c90 : ((rd_T45 l0_0 (ji87)).f0) > 0
                                · rw [if_pos c90] at H
                                  have c90b0 : decide (0 < ((rd_T45 l0_0 (ji87)).f0)) = true := decide_eq_true c90
                                  clear c90
                                  replace H := Option.bind_eq_some_iff.mp H
                                  obtain ⟨t403, A910, H⟩ := H
                                  replace H : (if t403 = 0 then (phratrylaw08_TreeCovers.l2 k4 a2 x13_3 (wrap64 (x15_4 + 1)) l0_0) else (some false)) = some r := H
                                  have A91 := Aside0.mk A910
                                  clear A910
                                  by_cases c92 : t403 = 0
                                  · rw [if_pos c92] at H
                                    have c92b0 : (t403 == 0) = true := beq_iff_eq.mpr c92
                                    have c92b1 : (t403 != 0) = false := bne_eq_false_iff_eq.mpr c92
                                    clear c92
                                    have H' := Aside0.mk H
                                    clear H
                                    have hcz93_0 : wr.cell? ⟨gb373, 0, none⟩ = some (.slice A0_0 l0_0.length c0_0) := (blk_cell BK373.out 0).trans rfl
                                    have hfz93_0 := blk_frozen BK373.out 0
                                    go_wp2_with (first | ((with_reducible refine gate_callee (f := 20) rfl ?_); refine goesL_ (some 84) rfl rfl Tryd.func20 (by kernel_rfl) rfl #[.agg #[.slice A0_0 l0_0.length c0_0]] rfl (by (try simp only [List.map_toArray, List.map_cons, List.map_nil]); first | done | rfl | (simp only [List.length_drop, List.length_take]; rfl)) ?_; (with_reducible refine (tree_Size.calls _ _ l0_0 t400 _ ?side1 ?side2 ?side3 A84.out).mono ?_); (case side1 => repeat (first | exact (Kd.C_below HR0_0.out HB.out) | (with_reducible refine Kd.C_alloc ?_ _) | (with_reducible refine Kd.C_drewN ?_ _) | (with_reducible refine Kd.C_drew ?_))); (case side2 => exact HC0_0.out); (case side3 => repeat (first | exact HT.out | exact TabG.below HT.out HB.out | (with_reducible refine TabG.alloc ?_ _) | (with_reducible refine TabG.drewN ?_ _) | (with_reducible refine TabG.drew ?_) | exact TabG.below HT.out (by repeat (first | (with_reducible first | exact HB.out | apply below_alloc | apply pw_below_drewN | apply below_drew1 | refine below_set ?_ GE373.out) | exact HB.out)))); rintro e w94 ⟨rfl, hb⟩; refine ⟨_, rfl, ?_⟩; have n0_ := Aside0.mk (Kd.R_below (by (with_reducible repeat (first | apply Kd.R_alloc | apply Kd.R_drewN | apply Kd.R_drew)); exact HO_13.out) hb); have n1_ := Aside0.mk (blk_below (g := gb373) (o := .cells #[.slice A0_0 l0_0.length c0_0] 24 (0, 0)) (by (with_reducible repeat (first | refine blk_drewN ?_ _ | refine blk_drew ?_ | refine blk_alloc ?_ _)); exact BK373.out) hb); have n2_ := Aside0.mk (below_step (by repeat (first | (with_reducible first | exact HB.out | apply below_alloc | apply pw_below_drewN | apply below_drew1 | refine below_set ?_ GE373.out) | exact HB.out)) hb); clear HO_13; clear BK373; clear HB; have HO_13 := n0_; have BK373 := n1_; have HB := n2_; clear n0_ n1_ n2_; (try clear hb); (try clear hb2); (try clear hk); (try clear hi); have hcz95_0 : w94.cell? ⟨gb373, 0, none⟩ = some (.slice A0_0 l0_0.length c0_0) := (blk_cell BK373.out 0).trans rfl; have hfz95_0 := blk_frozen BK373.out 0; have p402 : 0 ≤ ((ji87) : Int) := of_decide_eq_true (by first | (with_reducible assumption) | assumption); have q402 : (ji87) < (l0_0.length : Int) := of_decide_eq_true (by first | (with_reducible assumption) | assumption); obtain ⟨ad402, A402_3, c402_3, e402, hx402_0, hx402_1, hx402_2, hx402_3, hl402_3, hi402_3⟩ := at_T45 HR0_0.out (ji87) p402 q402; cases e402; replace hx402_0 := (HB.out.cell (World.block_lt_of_cell? w _ hx402_0)).trans hx402_0; replace hx402_1 := (HB.out.cell (World.block_lt_of_cell? w _ hx402_1)).trans hx402_1; replace hx402_2 := (HB.out.cell (World.block_lt_of_cell? w _ hx402_2)).trans hx402_2; replace hx402_3 := (HB.out.cell (World.block_lt_of_cell? w _ hx402_3)).trans hx402_3; have HR402_3 := Aside0.mk hi402_3; have HC402_3 := Aside0.mk hl402_3; clear hi402_3 hl402_3; replace p402 := eq_true p402; replace q402 := eq_true q402; obtain ⟨Ao96, co96, eo96⟩ := Kd.R_slice HO_13.out; subst eo96) | (go_at_call 23; (with_reducible refine (phratrylaw08_names.calls _ _ l0_0 _ _ x13_3 x15_4 t403 _ ?side1 ?side2 ?side3 ?side4 A91.out).mono ?_); (case side1 => repeat (first | exact (Kd.C_below HR0_0.out HB.out) | (with_reducible refine Kd.C_alloc ?_ _) | (with_reducible refine Kd.C_drewN ?_ _) | (with_reducible refine Kd.C_drew ?_))); (case side2 => exact HC0_0.out); (case side3 => repeat (first | exact (Kd.R_reads' HO_13.out).2.2 | (with_reducible refine Kd.C_alloc ?_ _) | (with_reducible refine Kd.C_drewN ?_ _) | (with_reducible refine Kd.C_drew ?_))); (case side4 => exact (Kd.R_reads' HO_13.out).2.1); rintro e w97 ⟨rfl, hb⟩; have n0_ := Aside0.mk (Kd.R_below (by (with_reducible repeat (first | apply Kd.R_alloc | apply Kd.R_drewN | apply Kd.R_drew)); exact HO_13.out) hb); have n1_ := Aside0.mk (blk_below (g := gb373) (o := .cells #[.slice (some ad402) l0_0.length c0_0] 24 (0, 0)) (by (with_reducible repeat (first | refine blk_drewN ?_ _ | refine blk_drew ?_ | refine blk_alloc ?_ _)); exact BK373.out) hb); have n2_ := Aside0.mk (below_step (by repeat (first | (with_reducible first | exact HB.out | apply below_alloc | apply pw_below_drewN | apply below_drew1 | refine below_set ?_ GE373.out) | exact HB.out)) hb); clear HO_13; clear BK373; clear HB; have HO_13 := n0_; have BK373 := n1_; have HB := n2_; clear n0_ n1_ n2_; (try clear hb); (try clear hb2); (try clear hk); (try clear hi)))
                                    go_roundg k4
                                    case measure => have := HJ3.out; have := HJ25.out; have := HK3.out; have := HK4.out; omega
                                    case rel => exact ⟨(wrap64 (x15_4 + 1)), (by first | rfl | (simp; done) | (simp [*]; done)), H', ⟨by have := HJ3.out; have := HJ25.out; have := HK3.out; have := HK4.out; omega⟩, ⟨by (with_reducible repeat (first | apply Kd.R_alloc | apply Kd.R_drewN | apply Kd.R_drew)); exact HO_13.out⟩, ⟨by (with_reducible repeat (first | refine blk_drewN ?_ _ | refine blk_drew ?_ | refine blk_alloc ?_ _)); exact BK373.out⟩, ⟨by repeat (first | (with_reducible first | exact HB.out | apply below_alloc | apply pw_below_drewN | apply below_drew1 | refine below_set ?_ GE373.out) | exact HB.out)⟩⟩
                                  · rw [if_neg c92] at H
                                    have c92b0 : (t403 == 0) = false := beq_eq_false_iff_ne.mpr c92
                                    have c92b1 : (t403 != 0) = true := bne_iff_ne.mpr c92
                                    obtain rfl := Option.some.inj H
                                    have hcz98_0 : wr.cell? ⟨gb373, 0, none⟩ = some (.slice A0_0 l0_0.length c0_0) := (blk_cell BK373.out 0).trans rfl
                                    have hfz98_0 := blk_frozen BK373.out 0
                                    go_wp2_with (first | ((with_reducible refine gate_callee (f := 20) rfl ?_); refine goesL_ (some 84) rfl rfl Tryd.func20 (by kernel_rfl) rfl #[.agg #[.slice A0_0 l0_0.length c0_0]] rfl (by (try simp only [List.map_toArray, List.map_cons, List.map_nil]); first | done | rfl | (simp only [List.length_drop, List.length_take]; rfl)) ?_; (with_reducible refine (tree_Size.calls _ _ l0_0 t400 _ ?side1 ?side2 ?side3 A84.out).mono ?_); (case side1 => repeat (first | exact (Kd.C_below HR0_0.out HB.out) | (with_reducible refine Kd.C_alloc ?_ _) | (with_reducible refine Kd.C_drewN ?_ _) | (with_reducible refine Kd.C_drew ?_))); (case side2 => exact HC0_0.out); (case side3 => repeat (first | exact HT.out | exact TabG.below HT.out HB.out | (with_reducible refine TabG.alloc ?_ _) | (with_reducible refine TabG.drewN ?_ _) | (with_reducible refine TabG.drew ?_) | exact TabG.below HT.out (by repeat (first | (with_reducible first | exact HB.out | apply below_alloc | apply pw_below_drewN | apply below_drew1 | refine below_set ?_ GE373.out) | exact HB.out)))); rintro e w99 ⟨rfl, hb⟩; refine ⟨_, rfl, ?_⟩; have n0_ := Aside0.mk (Kd.R_below (by (with_reducible repeat (first | apply Kd.R_alloc | apply Kd.R_drewN | apply Kd.R_drew)); exact HO_13.out) hb); have n1_ := Aside0.mk (blk_below (g := gb373) (o := .cells #[.slice A0_0 l0_0.length c0_0] 24 (0, 0)) (by (with_reducible repeat (first | refine blk_drewN ?_ _ | refine blk_drew ?_ | refine blk_alloc ?_ _)); exact BK373.out) hb); have n2_ := Aside0.mk (below_step (by repeat (first | (with_reducible first | exact HB.out | apply below_alloc | apply pw_below_drewN | apply below_drew1 | refine below_set ?_ GE373.out) | exact HB.out)) hb); clear HO_13; clear BK373; clear HB; have HO_13 := n0_; have BK373 := n1_; have HB := n2_; clear n0_ n1_ n2_; (try clear hb); (try clear hb2); (try clear hk); (try clear hi); have hcz100_0 : w99.cell? ⟨gb373, 0, none⟩ = some (.slice A0_0 l0_0.length c0_0) := (blk_cell BK373.out 0).trans rfl; have hfz100_0 := blk_frozen BK373.out 0; have p402 : 0 ≤ ((ji87) : Int) := of_decide_eq_true (by first | (with_reducible assumption) | assumption); have q402 : (ji87) < (l0_0.length : Int) := of_decide_eq_true (by first | (with_reducible assumption) | assumption); obtain ⟨ad402, A402_3, c402_3, e402, hx402_0, hx402_1, hx402_2, hx402_3, hl402_3, hi402_3⟩ := at_T45 HR0_0.out (ji87) p402 q402; cases e402; replace hx402_0 := (HB.out.cell (World.block_lt_of_cell? w _ hx402_0)).trans hx402_0; replace hx402_1 := (HB.out.cell (World.block_lt_of_cell? w _ hx402_1)).trans hx402_1; replace hx402_2 := (HB.out.cell (World.block_lt_of_cell? w _ hx402_2)).trans hx402_2; replace hx402_3 := (HB.out.cell (World.block_lt_of_cell? w _ hx402_3)).trans hx402_3; have HR402_3 := Aside0.mk hi402_3; have HC402_3 := Aside0.mk hl402_3; clear hi402_3 hl402_3; replace p402 := eq_true p402; replace q402 := eq_true q402; obtain ⟨Ao101, co101, eo101⟩ := Kd.R_slice HO_13.out; subst eo101) | (go_at_call 23; (with_reducible refine (phratrylaw08_names.calls _ _ l0_0 _ _ x13_3 x15_4 t403 _ ?side1 ?side2 ?side3 ?side4 A91.out).mono ?_); (case side1 => repeat (first | exact (Kd.C_below HR0_0.out HB.out) | (with_reducible refine Kd.C_alloc ?_ _) | (with_reducible refine Kd.C_drewN ?_ _) | (with_reducible refine Kd.C_drew ?_))); (case side2 => exact HC0_0.out); (case side3 => repeat (first | exact (Kd.R_reads' HO_13.out).2.2 | (with_reducible refine Kd.C_alloc ?_ _) | (with_reducible refine Kd.C_drewN ?_ _) | (with_reducible refine Kd.C_drew ?_))); (case side4 => exact (Kd.R_reads' HO_13.out).2.1); rintro e w102 ⟨rfl, hb⟩; have n0_ := Aside0.mk (Kd.R_below (by (with_reducible repeat (first | apply Kd.R_alloc | apply Kd.R_drewN | apply Kd.R_drew)); exact HO_13.out) hb); have n1_ := Aside0.mk (blk_below (g := gb373) (o := .cells #[.slice (some ad402) l0_0.length c0_0] 24 (0, 0)) (by (with_reducible repeat (first | refine blk_drewN ?_ _ | refine blk_drew ?_ | refine blk_alloc ?_ _)); exact BK373.out) hb); have n2_ := Aside0.mk (below_step (by repeat (first | (with_reducible first | exact HB.out | apply below_alloc | apply pw_below_drewN | apply below_drew1 | refine below_set ?_ GE373.out) | exact HB.out)) hb); clear HO_13; clear BK373; clear HB; have HO_13 := n0_; have BK373 := n1_; have HB := n2_; clear n0_ n1_ n2_; (try clear hb); (try clear hb2); (try clear hk); (try clear hi)))
                                    go_ret
                                    exact ⟨by first | rfl | (simp [errW_none, errW_some] <;> rfl) | (simp only [← hji87]; first | rfl | (simp [errW_none, errW_some] <;> rfl)) | (simp [*, errW_none, errW_some] <;> rfl), by repeat (first | (with_reducible first | exact HB.out | apply below_alloc | apply pw_below_drewN | apply below_drew1 | refine below_set ?_ GE373.out) | exact HB.out)⟩
                                · rw [if_neg c90] at H
                                  have c90b0 : decide (0 < ((rd_T45 l0_0 (ji87)).f0)) = false := decide_eq_false c90
                                  clear c90
                                  have H' := Aside0.mk H
                                  clear H
                                  have hcz103_0 : wr.cell? ⟨gb373, 0, none⟩ = some (.slice A0_0 l0_0.length c0_0) := (blk_cell BK373.out 0).trans rfl
                                  have hfz103_0 := blk_frozen BK373.out 0
                                  go_wp2_with (first | ((with_reducible refine gate_callee (f := 20) rfl ?_); refine goesL_ (some 84) rfl rfl Tryd.func20 (by kernel_rfl) rfl #[.agg #[.slice A0_0 l0_0.length c0_0]] rfl (by (try simp only [List.map_toArray, List.map_cons, List.map_nil]); first | done | rfl | (simp only [List.length_drop, List.length_take]; rfl)) ?_; (with_reducible refine (tree_Size.calls _ _ l0_0 t400 _ ?side1 ?side2 ?side3 A84.out).mono ?_); (case side1 => repeat (first | exact (Kd.C_below HR0_0.out HB.out) | (with_reducible refine Kd.C_alloc ?_ _) | (with_reducible refine Kd.C_drewN ?_ _) | (with_reducible refine Kd.C_drew ?_))); (case side2 => exact HC0_0.out); (case side3 => repeat (first | exact HT.out | exact TabG.below HT.out HB.out | (with_reducible refine TabG.alloc ?_ _) | (with_reducible refine TabG.drewN ?_ _) | (with_reducible refine TabG.drew ?_) | exact TabG.below HT.out (by repeat (first | (with_reducible first | exact HB.out | apply below_alloc | apply pw_below_drewN | apply below_drew1 | refine below_set ?_ GE373.out) | exact HB.out)))); rintro e w104 ⟨rfl, hb⟩; refine ⟨_, rfl, ?_⟩; have n0_ := Aside0.mk (Kd.R_below (by (with_reducible repeat (first | apply Kd.R_alloc | apply Kd.R_drewN | apply Kd.R_drew)); exact HO_13.out) hb); have n1_ := Aside0.mk (blk_below (g := gb373) (o := .cells #[.slice A0_0 l0_0.length c0_0] 24 (0, 0)) (by (with_reducible repeat (first | refine blk_drewN ?_ _ | refine blk_drew ?_ | refine blk_alloc ?_ _)); exact BK373.out) hb); have n2_ := Aside0.mk (below_step (by repeat (first | (with_reducible first | exact HB.out | apply below_alloc | apply pw_below_drewN | apply below_drew1 | refine below_set ?_ GE373.out) | exact HB.out)) hb); clear HO_13; clear BK373; clear HB; have HO_13 := n0_; have BK373 := n1_; have HB := n2_; clear n0_ n1_ n2_; (try clear hb); (try clear hb2); (try clear hk); (try clear hi); have hcz105_0 : w104.cell? ⟨gb373, 0, none⟩ = some (.slice A0_0 l0_0.length c0_0) := (blk_cell BK373.out 0).trans rfl; have hfz105_0 := blk_frozen BK373.out 0; have p402 : 0 ≤ ((ji87) : Int) := of_decide_eq_true (by first | (with_reducible assumption) | assumption); have q402 : (ji87) < (l0_0.length : Int) := of_decide_eq_true (by first | (with_reducible assumption) | assumption); obtain ⟨ad402, A402_3, c402_3, e402, hx402_0, hx402_1, hx402_2, hx402_3, hl402_3, hi402_3⟩ := at_T45 HR0_0.out (ji87) p402 q402; cases e402; replace hx402_0 := (HB.out.cell (World.block_lt_of_cell? w _ hx402_0)).trans hx402_0; replace hx402_1 := (HB.out.cell (World.block_lt_of_cell? w _ hx402_1)).trans hx402_1; replace hx402_2 := (HB.out.cell (World.block_lt_of_cell? w _ hx402_2)).trans hx402_2; replace hx402_3 := (HB.out.cell (World.block_lt_of_cell? w _ hx402_3)).trans hx402_3; have HR402_3 := Aside0.mk hi402_3; have HC402_3 := Aside0.mk hl402_3; clear hi402_3 hl402_3; replace p402 := eq_true p402; replace q402 := eq_true q402))
                                  go_roundg k4
                                  case measure => have := HJ3.out; have := HJ25.out; have := HK3.out; have := HK4.out; omega
                                  case rel => exact ⟨(wrap64 (x15_4 + 1)), (by first | rfl | (simp; done) | (simp [*]; done)), H', ⟨by have := HJ3.out; have := HJ25.out; have := HK3.out; have := HK4.out; omega⟩, ⟨by (with_reducible repeat (first | apply Kd.R_alloc | apply Kd.R_drewN | apply Kd.R_drew)); exact HO_13.out⟩, ⟨by (with_reducible repeat (first | refine blk_drewN ?_ _ | refine blk_drew ?_ | refine blk_alloc ?_ _)); exact BK373.out⟩, ⟨by repeat (first | (with_reducible first | exact HB.out | apply below_alloc | apply pw_below_drewN | apply below_drew1 | refine below_set ?_ GE373.out) | exact HB.out)⟩⟩
                              · rw [if_neg c89] at H
                                exact absurd H (by simp)
                            · rw [if_neg c88] at H
                              exact absurd H (by simp)
                          · rw [if_neg c86] at H
                            have c86b0 : (x15_4 == a2) = false := beq_eq_false_iff_ne.mpr c86
                            have c86b1 : (x15_4 != a2) = true := bne_iff_ne.mpr c86
                            obtain ⟨ji106, hji106⟩ : ∃ j_ : Int, (wrap64 (2 * x15_4)) = j_ := ⟨_, rfl⟩
                            replace H : (if 0 ≤ (ji106) then (if (ji106) < (l0_0.length : Int) then (if ((rd_T45 l0_0 (ji106)).f0) > 0 then ((phratrylaw08_names.f l0_0 x13_3 x15_4).bind fun t405 => (if t405 = 1 then (phratrylaw08_TreeCovers.l2 k4 a2 x13_3 (wrap64 (x15_4 + 1)) l0_0) else (some false))) else (phratrylaw08_TreeCovers.l2 k4 a2 x13_3 (wrap64 (x15_4 + 1)) l0_0)) else (none)) else (none)) = some r := by first | (rw [hji106] at H; exact H) | (simp only [hji106] at H ⊢; exact H)
                            (try rw [hji106] at A84)
                            have hji106w : (IntKind.i64.wrap (2 * x15_4)) = ji106 := (i64_w _).trans hji106
                            by_cases c107 : 0 ≤ (ji106)
                            · rw [if_pos c107] at H
                              have c107b0 : decide (0 ≤ (ji106)) = true := decide_eq_true c107
                              clear c107
                              by_cases c108 : (ji106) < (l0_0.length : Int)
                              · rw [if_pos c108] at H
                                have c108b0 : decide ((ji106) < (l0_0.length : Int)) = true := decide_eq_true c108
                                clear c108
                                by_cases c109 : ((rd_T45 l0_0 (ji106)).f0) > 0
                                · rw [if_pos c109] at H
                                  have c109b0 : decide (0 < ((rd_T45 l0_0 (ji106)).f0)) = true := decide_eq_true c109
                                  clear c109
                                  replace H := Option.bind_eq_some_iff.mp H
                                  obtain ⟨t405, A1100, H⟩ := H
                                  replace H : (if t405 = 1 then (phratrylaw08_TreeCovers.l2 k4 a2 x13_3 (wrap64 (x15_4 + 1)) l0_0) else (some false)) = some r := H
                                  have A110 := Aside0.mk A1100
                                  clear A1100
                                  by_cases c111 : t405 = 1
                                  · rw [if_pos c111] at H
                                    have c111b0 : (t405 == 1) = true := beq_iff_eq.mpr c111
                                    have c111b1 : (t405 != 1) = false := bne_eq_false_iff_eq.mpr c111
                                    clear c111
                                    have H' := Aside0.mk H
                                    clear H
                                    have hcz112_0 : wr.cell? ⟨gb373, 0, none⟩ = some (.slice A0_0 l0_0.length c0_0) := (blk_cell BK373.out 0).trans rfl
                                    have hfz112_0 := blk_frozen BK373.out 0
                                    go_wp2_with (first | ((with_reducible refine gate_callee (f := 20) rfl ?_); refine goesL_ (some 84) rfl rfl Tryd.func20 (by kernel_rfl) rfl #[.agg #[.slice A0_0 l0_0.length c0_0]] rfl (by (try simp only [List.map_toArray, List.map_cons, List.map_nil]); first | done | rfl | (simp only [List.length_drop, List.length_take]; rfl)) ?_; (with_reducible refine (tree_Size.calls _ _ l0_0 t400 _ ?side1 ?side2 ?side3 A84.out).mono ?_); (case side1 => repeat (first | exact (Kd.C_below HR0_0.out HB.out) | (with_reducible refine Kd.C_alloc ?_ _) | (with_reducible refine Kd.C_drewN ?_ _) | (with_reducible refine Kd.C_drew ?_))); (case side2 => exact HC0_0.out); (case side3 => repeat (first | exact HT.out | exact TabG.below HT.out HB.out | (with_reducible refine TabG.alloc ?_ _) | (with_reducible refine TabG.drewN ?_ _) | (with_reducible refine TabG.drew ?_) | exact TabG.below HT.out (by repeat (first | (with_reducible first | exact HB.out | apply below_alloc | apply pw_below_drewN | apply below_drew1 | refine below_set ?_ GE373.out) | exact HB.out)))); rintro e w113 ⟨rfl, hb⟩; refine ⟨_, rfl, ?_⟩; have n0_ := Aside0.mk (Kd.R_below (by (with_reducible repeat (first | apply Kd.R_alloc | apply Kd.R_drewN | apply Kd.R_drew)); exact HO_13.out) hb); have n1_ := Aside0.mk (blk_below (g := gb373) (o := .cells #[.slice A0_0 l0_0.length c0_0] 24 (0, 0)) (by (with_reducible repeat (first | refine blk_drewN ?_ _ | refine blk_drew ?_ | refine blk_alloc ?_ _)); exact BK373.out) hb); have n2_ := Aside0.mk (below_step (by repeat (first | (with_reducible first | exact HB.out | apply below_alloc | apply pw_below_drewN | apply below_drew1 | refine below_set ?_ GE373.out) | exact HB.out)) hb); clear HO_13; clear BK373; clear HB; have HO_13 := n0_; have BK373 := n1_; have HB := n2_; clear n0_ n1_ n2_; (try clear hb); (try clear hb2); (try clear hk); (try clear hi); have hcz114_0 : w113.cell? ⟨gb373, 0, none⟩ = some (.slice A0_0 l0_0.length c0_0) := (blk_cell BK373.out 0).trans rfl; have hfz114_0 := blk_frozen BK373.out 0; have p404 : 0 ≤ ((ji106) : Int) := of_decide_eq_true (by first | (with_reducible assumption) | assumption); have q404 : (ji106) < (l0_0.length : Int) := of_decide_eq_true (by first | (with_reducible assumption) | assumption); obtain ⟨ad404, A404_3, c404_3, e404, hx404_0, hx404_1, hx404_2, hx404_3, hl404_3, hi404_3⟩ := at_T45 HR0_0.out (ji106) p404 q404; cases e404; replace hx404_0 := (HB.out.cell (World.block_lt_of_cell? w _ hx404_0)).trans hx404_0; replace hx404_1 := (HB.out.cell (World.block_lt_of_cell? w _ hx404_1)).trans hx404_1; replace hx404_2 := (HB.out.cell (World.block_lt_of_cell? w _ hx404_2)).trans hx404_2; replace hx404_3 := (HB.out.cell (World.block_lt_of_cell? w _ hx404_3)).trans hx404_3; have HR404_3 := Aside0.mk hi404_3; have HC404_3 := Aside0.mk hl404_3; clear hi404_3 hl404_3; replace p404 := eq_true p404; replace q404 := eq_true q404; obtain ⟨Ao115, co115, eo115⟩ := Kd.R_slice HO_13.out; subst eo115) | (go_at_call 23; (with_reducible refine (phratrylaw08_names.calls _ _ l0_0 _ _ x13_3 x15_4 t405 _ ?side1 ?side2 ?side3 ?side4 A110.out).mono ?_); (case side1 => repeat (first | exact (Kd.C_below HR0_0.out HB.out) | (with_reducible refine Kd.C_alloc ?_ _) | (with_reducible refine Kd.C_drewN ?_ _) | (with_reducible refine Kd.C_drew ?_))); (case side2 => exact HC0_0.out); (case side3 => repeat (first | exact (Kd.R_reads' HO_13.out).2.2 | (with_reducible refine Kd.C_alloc ?_ _) | (with_reducible refine Kd.C_drewN ?_ _) | (with_reducible refine Kd.C_drew ?_))); (case side4 => exact (Kd.R_reads' HO_13.out).2.1); rintro e w116 ⟨rfl, hb⟩; have n0_ := Aside0.mk (Kd.R_below (by (with_reducible repeat (first | apply Kd.R_alloc | apply Kd.R_drewN | apply Kd.R_drew)); exact HO_13.out) hb); have n1_ := Aside0.mk (blk_below (g := gb373) (o := .cells #[.slice (some ad404) l0_0.length c0_0] 24 (0, 0)) (by (with_reducible repeat (first | refine blk_drewN ?_ _ | refine blk_drew ?_ | refine blk_alloc ?_ _)); exact BK373.out) hb); have n2_ := Aside0.mk (below_step (by repeat (first | (with_reducible first | exact HB.out | apply below_alloc | apply pw_below_drewN | apply below_drew1 | refine below_set ?_ GE373.out) | exact HB.out)) hb); clear HO_13; clear BK373; clear HB; have HO_13 := n0_; have BK373 := n1_; have HB := n2_; clear n0_ n1_ n2_; (try clear hb); (try clear hb2); (try clear hk); (try clear hi)))
                                    go_roundg k4
                                    case measure => have := HJ3.out; have := HJ25.out; have := HK3.out; have := HK4.out; omega
                                    case rel => exact ⟨(wrap64 (x15_4 + 1)), (by first | rfl | (simp; done) | (simp [*]; done)), H', ⟨by have := HJ3.out; have := HJ25.out; have := HK3.out; have := HK4.out; omega⟩, ⟨by (with_reducible repeat (first | apply Kd.R_alloc | apply Kd.R_drewN | apply Kd.R_drew)); exact HO_13.out⟩, ⟨by (with_reducible repeat (first | refine blk_drewN ?_ _ | refine blk_drew ?_ | refine blk_alloc ?_ _)); exact BK373.out⟩, ⟨by repeat (first | (with_reducible first | exact HB.out | apply below_alloc | apply pw_below_drewN | apply below_drew1 | refine below_set ?_ GE373.out) | exact HB.out)⟩⟩
                                  · rw [if_neg c111] at H
                                    have c111b0 : (t405 == 1) = false := beq_eq_false_iff_ne.mpr c111
                                    have c111b1 : (t405 != 1) = true := bne_iff_ne.mpr c111
                                    obtain rfl := Option.some.inj H
                                    have hcz117_0 : wr.cell? ⟨gb373, 0, none⟩ = some (.slice A0_0 l0_0.length c0_0) := (blk_cell BK373.out 0).trans rfl
                                    have hfz117_0 := blk_frozen BK373.out 0
                                    go_wp2_with (first | ((with_reducible refine gate_callee (f := 20) rfl ?_); refine goesL_ (some 84) rfl rfl Tryd.func20 (by kernel_rfl) rfl #[.agg #[.slice A0_0 l0_0.length c0_0]] rfl (by (try simp only [List.map_toArray, List.map_cons, List.map_nil]); first | done | rfl | (simp only [List.length_drop, List.length_take]; rfl)) ?_; (with_reducible refine (tree_Size.calls _ _ l0_0 t400 _ ?side1 ?side2 ?side3 A84.out).mono ?_); (case side1 => repeat (first | exact (Kd.C_below HR0_0.out HB.out) | (with_reducible refine Kd.C_alloc ?_ _) | (with_reducible refine Kd.C_drewN ?_ _) | (with_reducible refine Kd.C_drew ?_))); (case side2 => exact HC0_0.out); (case side3 => repeat (first | exact HT.out | exact TabG.below HT.out HB.out | (with_reducible refine TabG.alloc ?_ _) | (with_reducible refine TabG.drewN ?_ _) | (with_reducible refine TabG.drew ?_) | exact TabG.below HT.out (by repeat (first | (with_reducible first | exact HB.out | apply below_alloc | apply pw_below_drewN | apply below_drew1 | refine below_set ?_ GE373.out) | exact HB.out)))); rintro e w118 ⟨rfl, hb⟩; refine ⟨_, rfl, ?_⟩; have n0_ := Aside0.mk (Kd.R_below (by (with_reducible repeat (first | apply Kd.R_alloc | apply Kd.R_drewN | apply Kd.R_drew)); exact HO_13.out) hb); have n1_ := Aside0.mk (blk_below (g := gb373) (o := .cells #[.slice A0_0 l0_0.length c0_0] 24 (0, 0)) (by (with_reducible repeat (first | refine blk_drewN ?_ _ | refine blk_drew ?_ | refine blk_alloc ?_ _)); exact BK373.out) hb); have n2_ := Aside0.mk (below_step (by repeat (first | (with_reducible first | exact HB.out | apply below_alloc | apply pw_below_drewN | apply below_drew1 | refine below_set ?_ GE373.out) | exact HB.out)) hb); clear HO_13; clear BK373; clear HB; have HO_13 := n0_; have BK373 := n1_; have HB := n2_; clear n0_ n1_ n2_; (try clear hb); (try clear hb2); (try clear hk); (try clear hi); have hcz119_0 : w118.cell? ⟨gb373, 0, none⟩ = some (.slice A0_0 l0_0.length c0_0) := (blk_cell BK373.out 0).trans rfl; have hfz119_0 := blk_frozen BK373.out 0; have p404 : 0 ≤ ((ji106) : Int) := of_decide_eq_true (by first | (with_reducible assumption) | assumption); have q404 : (ji106) < (l0_0.length : Int) := of_decide_eq_true (by first | (with_reducible assumption) | assumption); obtain ⟨ad404, A404_3, c404_3, e404, hx404_0, hx404_1, hx404_2, hx404_3, hl404_3, hi404_3⟩ := at_T45 HR0_0.out (ji106) p404 q404; cases e404; replace hx404_0 := (HB.out.cell (World.block_lt_of_cell? w _ hx404_0)).trans hx404_0; replace hx404_1 := (HB.out.cell (World.block_lt_of_cell? w _ hx404_1)).trans hx404_1; replace hx404_2 := (HB.out.cell (World.block_lt_of_cell? w _ hx404_2)).trans hx404_2; replace hx404_3 := (HB.out.cell (World.block_lt_of_cell? w _ hx404_3)).trans hx404_3; have HR404_3 := Aside0.mk hi404_3; have HC404_3 := Aside0.mk hl404_3; clear hi404_3 hl404_3; replace p404 := eq_true p404; replace q404 := eq_true q404; obtain ⟨Ao120, co120, eo120⟩ := Kd.R_slice HO_13.out; subst eo120) | (go_at_call 23; (with_reducible refine (phratrylaw08_names.calls _ _ l0_0 _ _ x13_3 x15_4 t405 _ ?side1 ?side2 ?side3 ?side4 A110.out).mono ?_); (case side1 => repeat (first | exact (Kd.C_below HR0_0.out HB.out) | (with_reducible refine Kd.C_alloc ?_ _) | (with_reducible refine Kd.C_drewN ?_ _) | (with_reducible refine Kd.C_drew ?_))); (case side2 => exact HC0_0.out); (case side3 => repeat (first | exact (Kd.R_reads' HO_13.out).2.2 | (with_reducible refine Kd.C_alloc ?_ _) | (with_reducible refine Kd.C_drewN ?_ _) | (with_reducible refine Kd.C_drew ?_))); (case side4 => exact (Kd.R_reads' HO_13.out).2.1); rintro e w121 ⟨rfl, hb⟩; have n0_ := Aside0.mk (Kd.R_below (by (with_reducible repeat (first | apply Kd.R_alloc | apply Kd.R_drewN | apply Kd.R_drew)); exact HO_13.out) hb); have n1_ := Aside0.mk (blk_below (g := gb373) (o := .cells #[.slice (some ad404) l0_0.length c0_0] 24 (0, 0)) (by (with_reducible repeat (first | refine blk_drewN ?_ _ | refine blk_drew ?_ | refine blk_alloc ?_ _)); exact BK373.out) hb); have n2_ := Aside0.mk (below_step (by repeat (first | (with_reducible first | exact HB.out | apply below_alloc | apply pw_below_drewN | apply below_drew1 | refine below_set ?_ GE373.out) | exact HB.out)) hb); clear HO_13; clear BK373; clear HB; have HO_13 := n0_; have BK373 := n1_; have HB := n2_; clear n0_ n1_ n2_; (try clear hb); (try clear hb2); (try clear hk); (try clear hi)))
                                    go_ret
                                    exact ⟨by first | rfl | (simp [errW_none, errW_some] <;> rfl) | (simp only [← hji106]; first | rfl | (simp [errW_none, errW_some] <;> rfl)) | (simp [*, errW_none, errW_some] <;> rfl), by repeat (first | (with_reducible first | exact HB.out | apply below_alloc | apply pw_below_drewN | apply below_drew1 | refine below_set ?_ GE373.out) | exact HB.out)⟩
                                · rw [if_neg c109] at H
                                  have c109b0 : decide (0 < ((rd_T45 l0_0 (ji106)).f0)) = false := decide_eq_false c109
                                  clear c109
                                  have H' := Aside0.mk H
                                  clear H
                                  have hcz122_0 : wr.cell? ⟨gb373, 0, none⟩ = some (.slice A0_0 l0_0.length c0_0) := (blk_cell BK373.out 0).trans rfl
                                  have hfz122_0 := blk_frozen BK373.out 0
                                  go_wp2_with (first | ((with_reducible refine gate_callee (f := 20) rfl ?_); refine goesL_ (some 84) rfl rfl Tryd.func20 (by kernel_rfl) rfl #[.agg #[.slice A0_0 l0_0.length c0_0]] rfl (by (try simp only [List.map_toArray, List.map_cons, List.map_nil]); first | done | rfl | (simp only [List.length_drop, List.length_take]; rfl)) ?_; (with_reducible refine (tree_Size.calls _ _ l0_0 t400 _ ?side1 ?side2 ?side3 A84.out).mono ?_); (case side1 => repeat (first | exact (Kd.C_below HR0_0.out HB.out) | (with_reducible refine Kd.C_alloc ?_ _) | (with_reducible refine Kd.C_drewN ?_ _) | (with_reducible refine Kd.C_drew ?_))); (case side2 => exact HC0_0.out); (case side3 => repeat (first | exact HT.out | exact TabG.below HT.out HB.out | (with_reducible refine TabG.alloc ?_ _) | (with_reducible refine TabG.drewN ?_ _) | (with_reducible refine TabG.drew ?_) | exact TabG.below HT.out (by repeat (first | (with_reducible first | exact HB.out | apply below_alloc | apply pw_below_drewN | apply below_drew1 | refine below_set ?_ GE373.out) | exact HB.out)))); rintro e w123 ⟨rfl, hb⟩; refine ⟨_, rfl, ?_⟩; have n0_ := Aside0.mk (Kd.R_below (by (with_reducible repeat (first | apply Kd.R_alloc | apply Kd.R_drewN | apply Kd.R_drew)); exact HO_13.out) hb); have n1_ := Aside0.mk (blk_below (g := gb373) (o := .cells #[.slice A0_0 l0_0.length c0_0] 24 (0, 0)) (by (with_reducible repeat (first | refine blk_drewN ?_ _ | refine blk_drew ?_ | refine blk_alloc ?_ _)); exact BK373.out) hb); have n2_ := Aside0.mk (below_step (by repeat (first | (with_reducible first | exact HB.out | apply below_alloc | apply pw_below_drewN | apply below_drew1 | refine below_set ?_ GE373.out) | exact HB.out)) hb); clear HO_13; clear BK373; clear HB; have HO_13 := n0_; have BK373 := n1_; have HB := n2_; clear n0_ n1_ n2_; (try clear hb); (try clear hb2); (try clear hk); (try clear hi); have hcz124_0 : w123.cell? ⟨gb373, 0, none⟩ = some (.slice A0_0 l0_0.length c0_0) := (blk_cell BK373.out 0).trans rfl; have hfz124_0 := blk_frozen BK373.out 0; have p404 : 0 ≤ ((ji106) : Int) := of_decide_eq_true (by first | (with_reducible assumption) | assumption); have q404 : (ji106) < (l0_0.length : Int) := of_decide_eq_true (by first | (with_reducible assumption) | assumption); obtain ⟨ad404, A404_3, c404_3, e404, hx404_0, hx404_1, hx404_2, hx404_3, hl404_3, hi404_3⟩ := at_T45 HR0_0.out (ji106) p404 q404; cases e404; replace hx404_0 := (HB.out.cell (World.block_lt_of_cell? w _ hx404_0)).trans hx404_0; replace hx404_1 := (HB.out.cell (World.block_lt_of_cell? w _ hx404_1)).trans hx404_1; replace hx404_2 := (HB.out.cell (World.block_lt_of_cell? w _ hx404_2)).trans hx404_2; replace hx404_3 := (HB.out.cell (World.block_lt_of_cell? w _ hx404_3)).trans hx404_3; have HR404_3 := Aside0.mk hi404_3; have HC404_3 := Aside0.mk hl404_3; clear hi404_3 hl404_3; replace p404 := eq_true p404; replace q404 := eq_true q404))
                                  go_roundg k4
                                  case measure => have := HJ3.out; have := HJ25.out; have := HK3.out; have := HK4.out; omega
                                  case rel => exact ⟨(wrap64 (x15_4 + 1)), (by first | rfl | (simp; done) | (simp [*]; done)), H', ⟨by have := HJ3.out; have := HJ25.out; have := HK3.out; have := HK4.out; omega⟩, ⟨by (with_reducible repeat (first | apply Kd.R_alloc | apply Kd.R_drewN | apply Kd.R_drew)); exact HO_13.out⟩, ⟨by (with_reducible repeat (first | refine blk_drewN ?_ _ | refine blk_drew ?_ | refine blk_alloc ?_ _)); exact BK373.out⟩, ⟨by repeat (first | (with_reducible first | exact HB.out | apply below_alloc | apply pw_below_drewN | apply below_drew1 | refine below_set ?_ GE373.out) | exact HB.out)⟩⟩
                              · rw [if_neg c108] at H
                                exact absurd H (by simp)
                            · rw [if_neg c107] at H
                              exact absurd H (by simp)
                        · rw [if_neg c85] at H
                          have c85b0 : decide (x15_4 < t400) = false := decide_eq_false c85
                          clear c85
                          replace H := Option.bind_eq_some_iff.mp H
                          obtain ⟨t401, A1250, H⟩ := H
                          replace H : (some t401) = some r := H
                          have A125 := Aside0.mk A1250
                          clear A1250
                          obtain rfl := Option.some.inj H
                          have hcz126_0 : wr.cell? ⟨gb373, 0, none⟩ = some (.slice A0_0 l0_0.length c0_0) := (blk_cell BK373.out 0).trans rfl
                          have hfz126_0 := blk_frozen BK373.out 0
                          go_wp2_with (first | ((with_reducible refine gate_callee (f := 20) rfl ?_); refine goesL_ (some 84) rfl rfl Tryd.func20 (by kernel_rfl) rfl #[.agg #[.slice A0_0 l0_0.length c0_0]] rfl (by (try simp only [List.map_toArray, List.map_cons, List.map_nil]); first | done | rfl | (simp only [List.length_drop, List.length_take]; rfl)) ?_; (with_reducible refine (tree_Size.calls _ _ l0_0 t400 _ ?side1 ?side2 ?side3 A84.out).mono ?_); (case side1 => repeat (first | exact (Kd.C_below HR0_0.out HB.out) | (with_reducible refine Kd.C_alloc ?_ _) | (with_reducible refine Kd.C_drewN ?_ _) | (with_reducible refine Kd.C_drew ?_))); (case side2 => exact HC0_0.out); (case side3 => repeat (first | exact HT.out | exact TabG.below HT.out HB.out | (with_reducible refine TabG.alloc ?_ _) | (with_reducible refine TabG.drewN ?_ _) | (with_reducible refine TabG.drew ?_) | exact TabG.below HT.out (by repeat (first | (with_reducible first | exact HB.out | apply below_alloc | apply pw_below_drewN | apply below_drew1 | refine below_set ?_ GE373.out) | exact HB.out)))); rintro e w127 ⟨rfl, hb⟩; refine ⟨_, rfl, ?_⟩; have n0_ := Aside0.mk (Kd.R_below (by (with_reducible repeat (first | apply Kd.R_alloc | apply Kd.R_drewN | apply Kd.R_drew)); exact HO_13.out) hb); have n1_ := Aside0.mk (blk_below (g := gb373) (o := .cells #[.slice A0_0 l0_0.length c0_0] 24 (0, 0)) (by (with_reducible repeat (first | refine blk_drewN ?_ _ | refine blk_drew ?_ | refine blk_alloc ?_ _)); exact BK373.out) hb); have n2_ := Aside0.mk (below_step (by repeat (first | (with_reducible first | exact HB.out | apply below_alloc | apply pw_below_drewN | apply below_drew1 | refine below_set ?_ GE373.out) | exact HB.out)) hb); clear HO_13; clear BK373; clear HB; have HO_13 := n0_; have BK373 := n1_; have HB := n2_; clear n0_ n1_ n2_; (try clear hb); (try clear hb2); (try clear hk); (try clear hi)) | ((with_reducible refine gate_callee (f := 11) rfl ?_); refine goesL_ (some 107) rfl rfl Tryd.func11 (by kernel_rfl) rfl #[] rfl (by (try simp only [List.map_toArray, List.map_cons, List.map_nil]); first | done | rfl | (simp only [List.length_drop, List.length_take]; rfl)) ?_; (with_reducible refine (phratrylaw08_alive.calls k4  t401 _ ?side1 A125.out).mono ?_); (case side1 => repeat (first | exact HT.out | exact TabG.below HT.out HB.out | (with_reducible refine TabG.alloc ?_ _) | (with_reducible refine TabG.drewN ?_ _) | (with_reducible refine TabG.drew ?_) | exact TabG.below HT.out (by repeat (first | (with_reducible first | exact HB.out | apply below_alloc | apply pw_below_drewN | apply below_drew1 | refine below_set ?_ GE373.out) | exact HB.out)))); rintro e w128 ⟨rfl, hb⟩; refine ⟨_, rfl, ?_⟩; have n0_ := Aside0.mk (Kd.R_below (by (with_reducible repeat (first | apply Kd.R_alloc | apply Kd.R_drewN | apply Kd.R_drew)); exact HO_13.out) hb); have n1_ := Aside0.mk (blk_below (g := gb373) (o := .cells #[.slice A0_0 l0_0.length c0_0] 24 (0, 0)) (by (with_reducible repeat (first | refine blk_drewN ?_ _ | refine blk_drew ?_ | refine blk_alloc ?_ _)); exact BK373.out) hb); have n2_ := Aside0.mk (below_step (by repeat (first | (with_reducible first | exact HB.out | apply below_alloc | apply pw_below_drewN | apply below_drew1 | refine below_set ?_ GE373.out) | exact HB.out)) hb); clear HO_13; clear BK373; clear HB; have HO_13 := n0_; have BK373 := n1_; have HB := n2_; clear n0_ n1_ n2_; (try clear hb); (try clear hb2); (try clear hk); (try clear hi)))
                          go_ret
                          exact ⟨by first | rfl | (simp [errW_none, errW_some] <;> rfl) | (simp [*, errW_none, errW_some] <;> rfl), by repeat (first | (with_reducible first | exact HB.out | apply below_alloc | apply pw_below_drewN | apply below_drew1 | refine below_set ?_ GE373.out) | exact HB.out)⟩
            · rw [if_neg c75] at H
              have c75b0 : (t394 == 0) = false := beq_eq_false_iff_ne.mpr c75
              have c75b1 : (t394 != 0) = true := bne_iff_ne.mpr c75
              replace H := Option.bind_eq_some_iff.mp H
              obtain ⟨t395, A1290, H⟩ := H
              replace H : (some t395) = some r := H
              have A129 := Aside0.mk A1290
              clear A1290
              obtain rfl := Option.some.inj H
              have hcz130_0 : wc.cell? ⟨gb373, 0, none⟩ = some (.slice A0_0 l0_0.length c0_0) := (blk_cell BK373.out 0).trans rfl
              have hfz130_0 := blk_frozen BK373.out 0
              go_wp2_with (first | ((with_reducible refine gate_callee (f := 25) rfl ?_); refine goesL_ (some 64) rfl rfl Tryd.func25 (by kernel_rfl) rfl #[.agg #[.slice A0_0 l0_0.length c0_0], .int .i64 a2, .slice none 0 0] rfl (by (try simp only [List.map_toArray, List.map_cons, List.map_nil]); first | done | rfl | (simp only [List.length_drop, List.length_take]; rfl)) ?_; (refine (tree_Targets.calls _ _ l0_0 a2 _ _ ([] : List Int) t391 t394 _ ?side1 ?side2 ?side3 ?side4 ?side5 A74.out).mono ?_); (case side1 => repeat (first | exact (Kd.C_below HR0_0.out HB.out) | (with_reducible refine Kd.C_alloc ?_ _) | (with_reducible refine Kd.C_drewN ?_ _) | (with_reducible refine Kd.C_drew ?_))); (case side2 => exact HC0_0.out); (case side3 => exact Kd.C_nil _ _); (case side4 => exact Nat.le_refl _); (case side5 => repeat (first | exact HT.out | exact TabG.below HT.out HB.out | (with_reducible refine TabG.alloc ?_ _) | (with_reducible refine TabG.drewN ?_ _) | (with_reducible refine TabG.drew ?_) | exact TabG.below HT.out (by repeat (first | (with_reducible first | exact HB.out | apply below_alloc | apply pw_below_drewN | apply below_drew1 | refine below_set ?_ GE373.out) | exact HB.out)))); rintro e w131 ⟨v392, rfl, ho0, hb⟩; refine ⟨_, rfl, ?_⟩; have n0_ := Aside0.mk (Kd.S_lower ho0 (below_size (by repeat (first | (with_reducible first | exact HB.out | apply below_alloc | apply pw_below_drewN | apply below_drew1 | refine below_set ?_ GE373.out) | exact HB.out)))); have n1_ := Aside0.mk (blk_below (g := gb373) (o := .cells #[.slice A0_0 l0_0.length c0_0] 24 (0, 0)) (by (with_reducible repeat (first | refine blk_drewN ?_ _ | refine blk_drew ?_ | refine blk_alloc ?_ _)); exact BK373.out) hb); have n2_ := Aside0.mk (below_step (by repeat (first | (with_reducible first | exact HB.out | apply below_alloc | apply pw_below_drewN | apply below_drew1 | refine below_set ?_ GE373.out) | exact HB.out)) hb); clear BK373; clear HB; have HO393 := n0_; have BK373 := n1_; have HB := n2_; clear n0_ n1_ n2_; (try clear hb); (try clear hb2); (try clear hk); (try clear hi); (try clear ho0)) | ((with_reducible refine gate_callee (f := 11) rfl ?_); refine goesL_ (some 69) rfl rfl Tryd.func11 (by kernel_rfl) rfl #[] rfl (by (try simp only [List.map_toArray, List.map_cons, List.map_nil]); first | done | rfl | (simp only [List.length_drop, List.length_take]; rfl)) ?_; (with_reducible refine (phratrylaw08_alive.calls kj25  t395 _ ?side1 A129.out).mono ?_); (case side1 => repeat (first | exact HT.out | exact TabG.below HT.out HB.out | (with_reducible refine TabG.alloc ?_ _) | (with_reducible refine TabG.drewN ?_ _) | (with_reducible refine TabG.drew ?_) | exact TabG.below HT.out (by repeat (first | (with_reducible first | exact HB.out | apply below_alloc | apply pw_below_drewN | apply below_drew1 | refine below_set ?_ GE373.out) | exact HB.out)))); rintro e w132 ⟨rfl, hb⟩; refine ⟨_, rfl, ?_⟩; have n0_ := Aside0.mk (Kd.S_below (by (with_reducible repeat (first | apply Kd.S_alloc | apply Kd.S_drewN | apply Kd.S_drew)); exact HO393.out) hb); have n1_ := Aside0.mk (blk_below (g := gb373) (o := .cells #[.slice A0_0 l0_0.length c0_0] 24 (0, 0)) (by (with_reducible repeat (first | refine blk_drewN ?_ _ | refine blk_drew ?_ | refine blk_alloc ?_ _)); exact BK373.out) hb); have n2_ := Aside0.mk (below_step (by repeat (first | (with_reducible first | exact HB.out | apply below_alloc | apply pw_below_drewN | apply below_drew1 | refine below_set ?_ GE373.out) | exact HB.out)) hb); clear HO393; clear BK373; clear HB; have HO393 := n0_; have BK373 := n1_; have HB := n2_; clear n0_ n1_ n2_; (try clear hb); (try clear hb2); (try clear hk); (try clear hi)))
              go_ret
              exact ⟨by first | rfl | (simp [errW_none, errW_some] <;> rfl) | (simp [*, errW_none, errW_some] <;> rfl), by repeat (first | (with_reducible first | exact HB.out | apply below_alloc | apply pw_below_drewN | apply below_drew1 | refine below_set ?_ GE373.out) | exact HB.out)⟩
end Go.Proofs.YtfgalpfiggnkpaaDoor.PT
