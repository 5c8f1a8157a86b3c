/- What treeFresh_card uses of the printed words and contracts. -/
import Derived.Test.YtfgalpfiggnkpaaDoorFrPTx0
import Derived.Test.YtfgalpfiggnkpaaDoorFrPTx3
import Derived.Test.YtfgalpfiggnkpaaDoorFrPTx5
import Derived.Test.YtfgalpfiggnkpaaDoorFrPTx6
namespace Go.Proofs.YtfgalpfiggnkpaaDoor.PT
open Go.RowKit Go.Proofs.YtfgalpfiggnkpaaDoorW.PrintWords Go.Proofs.YtfgalpfiggnkpaaDoorW.PrintLast Go.Proofs.YtfgalpfiggnkpaaDoorW.PrintMore
attribute [local go_sem] max2_int min2_int max_two min_two max_three min_three max_four min_four   -- for this text's walks alone
set_option linter.unusedVariables false
set_option linter.unusedSimpArgs false
def tree_Path.l0 : Nat → Int → List Int → List (S71) → Int → Int → Option (List Int × Int)
  | 0, _, _, _, _, _ => none
  | k + 1, x7, x8, x17, x18, x19 => if x19 < x18 then (if 0 ≤ x19 then (if x19 < (x17.length : Int) then (if x8.length < 17592186044416 then (tree_Path.l0 k x7 (x8 ++ [(rd_T71 x17 x19).f0]) x17 x18 (wrap64 (x19 + 1))) else (none)) else (none)) else (none)) else (some (x8, x7))
def tree_Path.f (k : Nat) (l0_0 : List (S45)) (a1 : Int) : Option (List Int × Int) := (tree_rows.f l0_0 a1).bind fun bt175 => (tree_Path.l0 k bt175.2 ([] : List Int) bt175.1 (bt175.1.length : Int) 0)
theorem tree_Path.mono_l : ∀ k, (∀ y0 y1 y2 y3 y4, LeO (tree_Path.l0 k y0 y1 y2 y3 y4) (tree_Path.l0 (k + 1) y0 y1 y2 y3 y4))
  | 0 => fun _ _ _ _ _ r h => by simp [tree_Path.l0] at h
  | k + 1 => by
    have ih0 := tree_Path.mono_l k
    · intro y0 y1 y2 y3 y4
      unfold tree_Path.l0
      repeat' first
      | (with_reducible exact ih0 _ _ _ _ _)
      | (with_reducible exact LeO.refl _)
      | (with_reducible exact LeO.none _)
      | (with_reducible refine LeO.ite ?_ ?_)
      | (with_reducible refine LeO.bind ?_ (fun _ => ?_))
      | exact ih0 _ _ _ _ _
      | exact LeO.none _
      | refine LeO.ite ?_ ?_
      | refine LeO.bind ?_ (fun _ => ?_)
theorem tree_Path.mono : ∀ a0 a1 k, LeO (tree_Path.f k a0 a1) (tree_Path.f (k + 1) a0 a1) := by
  intro a0 a1 k
  have ih0 := tree_Path.mono_l k
  unfold tree_Path.f
  repeat' first
      | (with_reducible exact ih0 _ _ _ _ _)
      | (with_reducible exact LeO.refl _)
      | (with_reducible exact LeO.none _)
      | (with_reducible refine LeO.ite ?_ ?_)
      | (with_reducible refine LeO.bind ?_ (fun _ => ?_))
      | exact ih0 _ _ _ _ _
      | exact LeO.none _
      | refine LeO.ite ?_ ?_
      | refine LeO.bind ?_ (fun _ => ?_)
set_option maxHeartbeats 8000000 in
set_option maxRecDepth 100000 in
theorem tree_Path.calls (k : Nat) (A0_0 : Option Addr) (c0_0 : Nat) (l0_0 : List (S45)) (a1 : Int) (r1 : List Int) (r2 : Int) (w : World) (hr0_0 : Kd.C k45 w A0_0 l0_0.length l0_0) (hc0_0 : l0_0.length ≤ c0_0) (hT : TabG w) (h : tree_Path.f k l0_0 a1 = some (r1, r2)) :
    Calls Tryd.prog 17 #[.agg #[.slice A0_0 l0_0.length c0_0], .int .i64 a1] w fun e w' => ∃ v0_ : Value, e = .returned (.tuple #[v0_, .int .i64 r2]) ∧ Kd.R (Kd.int .i64) 3 w' w.heap.size (fun _ => True) v0_ r1 ∧ Below w.heap.size w w' := by
  have hu24 := Tryd.underlying24
  have hu71 := Tryd.underlying71
  have HR0_0 := Aside0.mk hr0_0
  have HC0_0 := Aside0.mk hc0_0
  clear hr0_0 hc0_0
  have HB := Aside0.mk (Below.refl w.heap.size w)
  have HT := Aside0.mk hT
  clear hT
  have H : ((tree_rows.f l0_0 a1).bind fun bt175 => (tree_Path.l0 k bt175.2 ([] : List Int) bt175.1 (bt175.1.length : Int) 0)) = some (r1, r2) := h
  clear h
  replace H := Option.bind_eq_some_iff.mp H
  obtain ⟨⟨t175, t178⟩, A30, H⟩ := H
  replace H : (tree_Path.l0 k t178 ([] : List Int) t175 (t175.length : Int) 0) = some (r1, r2) := H
  have A3 := Aside0.mk A30
  clear A30
  have H' := Aside0.mk H
  clear H
  go_enter Tryd.func17, Tryd.ntmps17
  go_wp2_with (first | ((with_reducible refine gate_dst (N := 2) rfl ?_); refine box_event ?hg (N := 2) ?hd (cs := #[.slice A0_0 l0_0.length c0_0]) (t := 24) ?hr ?_; (case hd => rfl); (case hg => rfl); (case hr => first | (go_simp; done) | (go_simp; rfl)); intro gb174 hg w4 hbox hb; have n0_ := Aside0.mk (below_step (by repeat (first | (with_reducible first | exact HB.out | apply below_alloc | apply pw_below_drewN | apply below_drew1) | exact HB.out)) hb); have n1_ := Aside0.mk (hbox); have n2_ := Aside0.mk ((by rw [hg]; exact (below_size (by repeat (first | (with_reducible first | exact HB.out | apply below_alloc | apply pw_below_drewN | apply below_drew1) | exact HB.out))) : w.heap.size ≤ gb174)); have n3_ := Aside0.mk ((by rw [hg]; exact (below_size (by repeat (first | (with_reducible first | exact HB.out | apply below_alloc | apply pw_below_drewN | apply below_drew1) | exact HB.out))) : w.heap.size ≤ gb174)); clear HB; have HB := n0_; have BK174 := n1_; have GW174 := n2_; have GE174 := n3_; clear n0_ n1_ n2_ n3_; clear hb hbox hg; have hcz5_0 : w4.cell? ⟨gb174, 0, none⟩ = some (.slice A0_0 l0_0.length c0_0) := (blk_cell BK174.out 0).trans rfl; have hfz5_0 := blk_frozen BK174.out 0) | ((with_reducible refine gate_callee (f := 35) rfl ?_); refine goesL_ (some 14) rfl rfl Tryd.func35 (by kernel_rfl) rfl #[.agg #[.slice A0_0 l0_0.length c0_0], .int .i64 a1] rfl (by (try simp only [List.map_toArray, List.map_cons, List.map_nil]); first | done | rfl | (simp only [List.length_drop, List.length_take]; rfl)) ?_; (with_reducible refine (tree_rows.calls _ _ l0_0 a1 t175 t178 _ ?side1 ?side2 ?side3 A3.out).mono ?_); (case side1 => repeat (first | exact (Kd.C_below HR0_0.out HB.out) | (with_reducible refine Kd.C_alloc ?_ _) | (with_reducible refine Kd.C_drewN ?_ _) | (with_reducible refine Kd.C_drew ?_))); (case side2 => exact HC0_0.out); (case side3 => repeat (first | exact HT.out | exact TabG.below HT.out HB.out | (with_reducible refine TabG.alloc ?_ _) | (with_reducible refine TabG.drewN ?_ _) | (with_reducible refine TabG.drew ?_) | exact TabG.below HT.out (by repeat (first | (with_reducible first | exact HB.out | apply below_alloc | apply pw_below_drewN | apply below_drew1 | refine below_set ?_ GE174.out) | exact HB.out)))); rintro e w6 ⟨v176, rfl, ho0, hb⟩; refine ⟨_, rfl, ?_⟩; have n0_ := Aside0.mk (Kd.S_lower ho0 (below_size (by repeat (first | (with_reducible first | exact HB.out | apply below_alloc | apply pw_below_drewN | apply below_drew1 | refine below_set ?_ GE174.out) | exact HB.out)))); have n1_ := Aside0.mk (blk_below (g := gb174) (o := .cells #[.slice A0_0 l0_0.length c0_0] 24 (0, 0)) (by (with_reducible repeat (first | refine blk_drewN ?_ _ | refine blk_drew ?_ | refine blk_alloc ?_ _)); exact BK174.out) hb); have n2_ := Aside0.mk (below_step (by repeat (first | (with_reducible first | exact HB.out | apply below_alloc | apply pw_below_drewN | apply below_drew1 | refine below_set ?_ GE174.out) | exact HB.out)) hb); clear BK174; clear HB; have HO177 := n0_; have BK174 := n1_; have HB := n2_; clear n0_ n1_ n2_; (try clear hb); (try clear hb2); (try clear hk); (try clear hi); (try clear ho0); obtain ⟨Ao7, co7, eo7⟩ := Kd.S_slice HO177.out; subst eo7))
  go_loopg [8, 19] k (fun kq v8 v19 w' => ∃ (x8_1 : List Int) (x19_1 : Int), v19 = .int .i64 x19_1 ∧ Aside0 (tree_Path.l0 kq t178 x8_1 t175 (t175.length : Int) x19_1 = some (r1, r2)) ∧ Aside0 (kq ≤ k) ∧ Aside0 (Kd.R (Kd.int .i64) 3 w' w.heap.size (fun _ => True) v8 x8_1) ∧ Aside0 (Kd.S k71 71 w' w.heap.size (fun k_ => some k_ ≠ (v8 : Value).ownBlock) (.slice Ao7 t175.length co7) t175) ∧ Aside0 (w'.heap[gb174]? = some (.cells #[(.slice A0_0 l0_0.length c0_0)] 24 (0, 0))) ∧ Aside0 (Below w.heap.size w w'))
  case atStart => exact ⟨(([] : List Int)), (0), (by first | rfl | (simp; done) | (simp [*]; done)), H', ⟨Nat.le_refl _⟩, ⟨by first | exact Kd.R_nil _ _ _ _ _ | exact Kd.N_nil _ _ _ _ _ | exact Kd.V_nil _ _ _ _ _ | exact Kd.Q_nil _ _ _ _ _ | exact Kd.S_nil _ _ _ _ _⟩, ⟨by (with_reducible repeat (first | apply Kd.S_alloc | apply Kd.S_drewN | apply Kd.S_drew)); exact Kd.S_mono HO177.out (fun _ hk => (by simp [Value.ownBlock]))⟩, ⟨by (with_reducible repeat (first | refine blk_drewN ?_ _ | refine blk_drew ?_ | refine blk_alloc ?_ _)); exact BK174.out⟩, ⟨by repeat (first | (with_reducible first | exact HB.out | apply below_alloc | apply pw_below_drewN | apply below_drew1 | refine below_set ?_ GE174.out) | exact HB.out)⟩⟩
  case round =>
    clear H'
    try clear c1
    try clear p2
    try clear c3
    try clear hcz5_0
    try clear hfz5_0
    obtain ⟨x8_1, x19_1, rfl, HA, HK1, HO_8, HO_17, BK174, HB⟩ := hrel
    cases gk with
    | zero => exact absurd HA.out (by simp [tree_Path.l0])
    | succ k1 =>
      have H := HA.out
      clear HA
      simp only [tree_Path.l0] at H
      by_cases c8 : x19_1 < (t175.length : Int)
      · rw [if_pos c8] at H
        have c8b0 : decide (x19_1 < (t175.length : Int)) = true := decide_eq_true c8
        clear c8
        by_cases c9 : 0 ≤ x19_1
        · rw [if_pos c9] at H
          have c9b0 : decide (0 ≤ x19_1) = true := decide_eq_true c9
          clear c9
          by_cases c10 : x19_1 < (t175.length : Int)
          · rw [if_pos c10] at H
            have c10b0 : decide (x19_1 < (t175.length : Int)) = true := decide_eq_true c10
            clear c10
            by_cases c11 : x8_1.length < 17592186044416
            · rw [if_pos c11] at H
              have LMc11 := Aside0.mk c11
              clear c11
              obtain ⟨y181, hy181⟩ : ∃ y_ : List Int, y_ = (x8_1 ++ [(rd_T71 t175 x19_1).f0]) := ⟨_, rfl⟩
              replace H : (tree_Path.l0 k1 t178 y181 t175 (t175.length : Int) (wrap64 (x19_1 + 1))) = some (r1, r2) := by first | (rw [hy181]; with_reducible exact H) | (have H2_ := (Option.bind_some _ _).symm.trans H; rw [hy181]; with_reducible exact H2_) | (have H2_ := (Option.bind_some _ _).symm.trans H; with_reducible exact H2_) | with_reducible exact H | (rw [hy181]; exact H) | exact H
              have Ny181 := Aside0.mk hy181
              clear hy181
              have H' := Aside0.mk H
              clear H
              have p179 : 0 ≤ (x19_1 : Int) := of_decide_eq_true (by first | (with_reducible assumption) | assumption)
              have q179 : x19_1 < (t175.length : Int) := of_decide_eq_true (by first | (with_reducible assumption) | assumption)
              obtain ⟨ad179, A179_1, c179_1, e179, hx179_0, hx179_1, hl179_1, hi179_1⟩ := at_T71 (Kd.S_reads' HO_17.out).2.2 x19_1 p179 q179
              cases e179
              obtain ⟨ce179, hce179, hMe179, hcc179⟩ := Kd.S_get HO_17.out z71 x19_1 p179 (by first | exact q179 | exact of_decide_eq_true (by first | (with_reducible assumption) | assumption) | (have e_ := (Kd.S_reads' HO_17.out).1; omega))
              obtain ⟨ve179_1, rfl, ge179_1⟩ := k71_openM hMe179
              have hv179_1 := hcc179 1 _ rfl
              rw [add_field _ _ 1 (by omega)] at hv179_1
              replace hv179_1 := Option.some.inj (hv179_1.symm.trans hx179_1)
              rw [hv179_1] at ge179_1
              have HL179_1 := Aside0.mk (show Kd.R (Kd.int .i64) 3 _ _ _ _ ((rd_T71 t175 x19_1).f1) from ge179_1)
              clear hv179_1 ge179_1
              clear hcc179 hce179
              have HR179_1 := Aside0.mk hi179_1
              have HC179_1 := Aside0.mk hl179_1
              clear hi179_1 hl179_1
              replace p179 := eq_true p179
              replace q179 := eq_true q179
              go_wp2_with (first | ((with_reducible refine gate_dst (N := 10) rfl ?_); refine box_event ?hg (N := 10) ?hd (cs := #[.int .i64 0, .slice none 0 0]) (t := 71) ?hr ?_; (case hd => rfl); (case hg => rfl); (case hr => first | (go_simp; done) | (go_simp; rfl)); intro gb180 hg w12 hbox hb; have n0_ := Aside0.mk (Kd.R_below (by (with_reducible repeat (first | apply Kd.R_alloc | apply Kd.R_drewN | apply Kd.R_drew)); exact HO_8.out) hb); have n1_ := Aside0.mk (Kd.S_below (Kd.S_elderB (by (with_reducible repeat (first | apply Kd.S_alloc | apply Kd.S_drewN | apply Kd.S_drew)); exact HO_17.out) gb180 (Nat.le_of_eq hg.symm)) hb); have n2_ := Aside0.mk (Kd.R_below (by (with_reducible repeat (first | apply Kd.R_alloc | apply Kd.R_drewN | apply Kd.R_drew)); exact HL179_1.out) hb); have n3_ := Aside0.mk (blk_below (g := gb174) (o := .cells #[.slice A0_0 l0_0.length c0_0] 24 (0, 0)) (by (with_reducible repeat (first | refine blk_drewN ?_ _ | refine blk_drew ?_ | refine blk_alloc ?_ _)); exact BK174.out) hb); have n4_ := Aside0.mk (Kd.C_below (by repeat (first | (with_reducible exact HR179_1.out) | (with_reducible refine Kd.C_alloc ?_ _) | (with_reducible refine Kd.C_drewN ?_ _) | (with_reducible refine Kd.C_drew ?_) | exact HR179_1.out)) hb); have n5_ := Aside0.mk (below_step (by repeat (first | (with_reducible first | exact HB.out | apply below_alloc | apply pw_below_drewN | apply below_drew1 | refine below_set ?_ GE174.out) | exact HB.out)) hb); have n6_ := Aside0.mk (hbox); have n7_ := Aside0.mk ((by rw [hg]; exact (below_size (by repeat (first | (with_reducible first | exact HB.out | apply below_alloc | apply pw_below_drewN | apply below_drew1 | refine below_set ?_ GE174.out) | exact HB.out))) : w.heap.size ≤ gb180)); have n8_ := Aside0.mk ((by rw [hg]; exact (below_size (by repeat (first | (with_reducible first | exact HB.out | apply below_alloc | apply pw_below_drewN | apply below_drew1 | refine below_set ?_ GE174.out) | exact HB.out))) : w.heap.size ≤ gb180)); have n9_ := Aside0.mk ((by rw [hg]; exact Nat.ne_of_lt (blk_lt (g := gb174) (o := .cells #[.slice A0_0 l0_0.length c0_0] 24 (0, 0)) (by (with_reducible repeat (first | refine blk_drewN ?_ _ | refine blk_drew ?_ | refine blk_alloc ?_ _)); exact BK174.out)) : gb174 ≠ gb180)); have n10_ := Aside0.mk ((by rw [hg]; exact Nat.ne_of_gt (blk_lt (g := gb174) (o := .cells #[.slice A0_0 l0_0.length c0_0] 24 (0, 0)) (by (with_reducible repeat (first | refine blk_drewN ?_ _ | refine blk_drew ?_ | refine blk_alloc ?_ _)); exact BK174.out)) : gb180 ≠ gb174)); clear HO_8; clear HO_17; clear HL179_1; clear BK174; clear HR179_1; clear HB; have HO_8 := n0_; have HO_17 := n1_; have HL179_1 := n2_; have BK174 := n3_; have HR179_1 := n4_; have HB := n5_; have BK180 := n6_; have GW180 := n7_; have GE180 := n8_; have NB174_180 := n9_; have NB180_174 := n10_; clear n0_ n1_ n2_ n3_ n4_ n5_ n6_ n7_ n8_ n9_ n10_; clear hb hbox hg; have hnb13 := NB180_174.out; have hnc13 := NB174_180.out; have hcz14_0 : w12.cell? ⟨gb180, 0, none⟩ = some (.int .i64 0) := (blk_cell BK180.out 0).trans rfl; have hcz14_1 : w12.cell? ⟨gb180, 1, none⟩ = some (.slice none 0 0) := (blk_cell BK180.out 1).trans rfl; have hfz14_0 := blk_frozen BK180.out 0; have hfz14_1 := blk_frozen BK180.out 1) | ((with_reducible refine gate_builtin (b := .append) (xs := #[.tmp 23, .tmp 26]) rfl ?_); at_builtin; refine Kd.R_append (Kd.int .i64) (w0 := w) w.heap.size rfl (.tmp 23) (.tmp 26) 32 3 (.int .i64 0) 8 rfl Tryd.underlying32 info3 rfl (by decide) (by omega) u8 x8_1 ((rd_T71 t175 x19_1).f0) [.int .i64 ((rd_T71 t175 x19_1).f0)] (fun _ => True) (fun _ => False) rfl (by first | (go_simp; done) | (go_simp; rfl)) ?aP (fun _ hk => hk.elim) ?aF ?aO ?aB ?aS ?aL ?_; (case aP => exact rfl); (case aB => exact (by repeat (first | (with_reducible first | exact HB.out | apply below_alloc | apply pw_below_drewN | apply below_drew1 | refine below_set ?_ GE174.out | refine below_set ?_ GE180.out) | exact HB.out))); (case aF => exact (fun _ _ => trivial)); (case aO => exact (by (with_reducible repeat (first | apply Kd.R_alloc | apply Kd.R_drewN | apply Kd.R_drew)); exact Kd.R_mono (Kd.R_far (p := ⟨gb180, 1, none⟩) (Kd.R_far (p := ⟨gb180, 0, none⟩) (Kd.R_types HO_8.out BK180.out (by decide)) (fun _ hk => hk.2) (.int .i64 ((rd_T71 t175 x19_1).f0))) (fun _ hk => hk.2) (.slice A179_1 ((rd_T71 t175 x19_1).f1).length c179_1)) (fun _ hk => trivial))); (case aS => exact (below_size (by repeat (first | (with_reducible first | exact HB.out | apply below_alloc | apply pw_below_drewN | apply below_drew1 | refine below_set ?_ GE174.out | refine below_set ?_ GE180.out) | exact HB.out)))); (case aL => have := LMc11.out; omega); intro v182 w15 ho hb hg hat; rw [← Ny181.out] at ho; have n0_ := Aside0.mk (Kd.S_after (ok := (fun k_ => k_ ≠ gb180)) (by (with_reducible repeat (first | apply Kd.S_alloc | apply Kd.S_drewN | apply Kd.S_drew)); exact Kd.S_mono (Kd.S_far (p := ⟨gb180, 1, none⟩) (Kd.S_far (p := ⟨gb180, 0, none⟩) (Kd.S_mono HO_17.out (fun k_ hk => (⟨hk, hk.2⟩ : _ ∧ k_ ≠ gb180))) (fun _ hk => hk.2) (.int .i64 ((rd_T71 t175 x19_1).f0))) (fun _ hk => hk.2) (.slice A179_1 ((rd_T71 t175 x19_1).f1).length c179_1)) (fun _ hk => ⟨hk.1.2, hk.1.1⟩)) hg hat); have n1_ := Aside0.mk (blk_grown (g := gb174) (o := .cells #[.slice A0_0 l0_0.length c0_0] 24 (0, 0)) (by (with_reducible repeat (first | refine blk_drewN ?_ _ | refine blk_drew ?_ | refine blk_alloc ?_ _)); refine blk_far ?_ NB174_180.out _; (with_reducible repeat (first | refine blk_drewN ?_ _ | refine blk_drew ?_ | refine blk_alloc ?_ _)); refine blk_far ?_ NB174_180.out _; (with_reducible repeat (first | refine blk_drewN ?_ _ | refine blk_drew ?_ | refine blk_alloc ?_ _)); exact BK174.out) hg (Kd.R_ne HO_8.out BK174.out (by decide))); have n2_ := Aside0.mk (Kd.R_after (ok := (fun k_ => some k_ ≠ (.slice (some ad179) t175.length co7 : Value).ownBlock)) (by (with_reducible repeat (first | apply Kd.R_alloc | apply Kd.R_drewN | apply Kd.R_drew)); exact Kd.R_mono (Kd.R_far (p := ⟨gb180, 1, none⟩) (Kd.R_far (p := ⟨gb180, 0, none⟩) (Kd.R_types HL179_1.out BK180.out (by decide)) (fun _ hk => hk.2) (.int .i64 ((rd_T71 t175 x19_1).f0))) (fun _ hk => hk.2) (.slice A179_1 ((rd_T71 t175 x19_1).f1).length c179_1)) (fun _ hk => ⟨hk.1.2, hk.1.1⟩)) hg hat); have n3_ := Aside0.mk (blk_grown (g := gb180) (o := .cells #[.int .i64 ((rd_T71 t175 x19_1).f0), .slice A179_1 ((rd_T71 t175 x19_1).f1).length c179_1] 71 (0, 0)) (by (with_reducible repeat (first | refine blk_drewN ?_ _ | refine blk_drew ?_ | refine blk_alloc ?_ _)); refine blk_put (cs := #[.int .i64 ((rd_T71 t175 x19_1).f0), .slice none 0 0]) ?_ 1 _ rfl; (with_reducible repeat (first | refine blk_drewN ?_ _ | refine blk_drew ?_ | refine blk_alloc ?_ _)); refine blk_put (cs := #[.int .i64 0, .slice none 0 0]) ?_ 0 _ rfl; (with_reducible repeat (first | refine blk_drewN ?_ _ | refine blk_drew ?_ | refine blk_alloc ?_ _)); exact BK180.out) hg (Kd.R_ne HO_8.out BK180.out (by decide))); have n4_ := Aside0.mk (hb); have n5_ := Aside0.mk (ho); clear HO_17; clear BK174; clear HL179_1; clear BK180; clear HB; clear HO_8; have HO_17 := n0_; have BK174 := n1_; have HL179_1 := n2_; have BK180 := n3_; have HB := n4_; have HO183 := n5_; clear n0_ n1_ n2_ n3_ n4_ n5_; clear ho hb hg hat))
              go_roundg k1
              case measure => have := HK1.out; omega
              case rel => exact ⟨(y181), (wrap64 (x19_1 + 1)), (by first | rfl | (simp; done) | (simp [*]; done)), H', ⟨by have := HK1.out; omega⟩, ⟨by (with_reducible repeat (first | apply Kd.R_alloc | apply Kd.R_drewN | apply Kd.R_drew)); exact HO183.out⟩, ⟨by (with_reducible repeat (first | apply Kd.S_alloc | apply Kd.S_drewN | apply Kd.S_drew)); exact Kd.S_mono HO_17.out (fun _ hk => hk.2)⟩, ⟨by (with_reducible repeat (first | refine blk_drewN ?_ _ | refine blk_drew ?_ | refine blk_alloc ?_ _)); exact BK174.out⟩, ⟨by repeat (first | (with_reducible first | exact HB.out | apply below_alloc | apply pw_below_drewN | apply below_drew1 | refine below_set ?_ GE174.out | refine below_set ?_ GE180.out) | exact HB.out)⟩⟩
            · rw [if_neg c11] at H
              exact absurd H (by simp)
          · rw [if_neg c10] at H
            exact absurd H (by simp)
        · rw [if_neg c9] at H
          exact absurd H (by simp)
      · rw [if_neg c8] at H
        have c8b0 : decide (x19_1 < (t175.length : Int)) = false := decide_eq_false c8
        clear c8
        simp only [Option.some.injEq, Prod.mk.injEq] at H
        obtain ⟨rfl, rfl⟩ := H
        go_wp2
        go_ret2
        exact ⟨_, by first | rfl | (simp [errW_none, errW_some] <;> rfl) | (simp [*, errW_none, errW_some] <;> rfl), by (with_reducible repeat (first | apply Kd.R_alloc | apply Kd.R_drewN | apply Kd.R_drew)); exact HO_8.out, by repeat (first | (with_reducible first | exact HB.out | apply below_alloc | apply pw_below_drewN | apply below_drew1 | refine below_set ?_ GE174.out) | exact HB.out)⟩
section
def tree_Resolution.f (t : List S45) (x : Int) : Option (List Int × Int) :=
  if t.all (fun n => wfI n.f1) = true then some (if okB t = true then (if 0 ≤ x ∧ x < t.length then (resT t x.toNat, 0) else ([], 7)) else ([], 1)) else none
set_option maxRecDepth 100000 in
set_option maxHeartbeats 4000000 in
theorem tree_Resolution.calls (A0_0 : Option Addr) (c0_0 : Nat) (l0_0 : List (S45)) (a1 : Int) (r1 : List Int) (r2 : Int) (w : World) (hr0_0 : Kd.C k45 w A0_0 l0_0.length l0_0) (hc0_0 : l0_0.length ≤ c0_0) (hT : TabG w) (h : tree_Resolution.f l0_0 a1 = some (r1, r2)) :
    Calls Tryd.prog 19 #[.agg #[.slice A0_0 l0_0.length c0_0], .int .i64 a1] w fun e w' => ∃ v0_ : Value, e = .returned (.tuple #[v0_, .int .i64 r2]) ∧ Kd.R (Kd.int .i64) 3 w' w.heap.size (fun _ => True) v0_ r1 ∧ Below w.heap.size w w' := by
  have hu24 := Tryd.underlying24
  have HR := Aside0.mk hr0_0
  have HC := Aside0.mk hc0_0
  have HT := Aside0.mk hT
  clear hr0_0 hc0_0 hT
  unfold tree_Resolution.f at h
  by_cases hw : l0_0.all (fun n => wfI n.f1) = true
  · rw [if_pos hw] at h
    have hck : tree_Check.f l0_0 = some (if okB l0_0 = true then 0 else 1) := if_pos hw
    have h := Option.some.inj h
    by_cases hok : okB l0_0 = true
    · rw [if_pos hok] at h hck
      have CK := Aside0.mk hck
      clear hck hw
      by_cases hx0 : 0 ≤ a1
      · by_cases hx1 : a1 < l0_0.length
        · rw [if_pos ⟨hx0, hx1⟩] at h
          injection h with h1 h2
          subst h1 h2
          have HOK := Aside0.mk hok
          obtain ⟨x, rfl⟩ : ∃ x : Nat, a1 = (x : Int) := ⟨a1.toNat, by omega⟩
          rw [Int.toNat_natCast]
          go_enter Tryd.func19, Tryd.ntmps19
          go_wp2_with (go_at_call 10; refine (tree_Check.calls A0_0 c0_0 l0_0 _ _ (Kd.C_alloc HR.out _) HC.out (HT.out.alloc _) CK.out).mono ?_; rintro e w1 ⟨rfl, hb⟩; have bx := box_cell hb 0 _ rfl; have HB := Aside0.mk (below_box hb); clear hb)
          refine (tree_resolution.any A0_0 c0_0 l0_0 w1 w1 x (.slice none 0 0) [] ⟨Kd.C_below HR.out HB.out⟩ HC HOK.out ⟨TabG.below HT.out HB.out⟩ (by omega) (Kd.R_nil _ _ _ _ _) (Below.refl _ _) (by simp)).mono ?_
          rintro e w2 ⟨v2, rfl, ho, hb, -, -⟩
          rw [List.nil_append] at ho
          have HO := Aside0.mk (Kd.R_lower ho HB.out.size)
          have HB2 := Aside0.mk (HB.out.trans (hb.mono HB.out.size))
          clear ho hb
          dsimp only
          go_wp2
          refine bodyPost_ret (v := .tuple #[v2, .int .i64 0]) (by simp [results, Tryd.results19, go_sem]) rfl ⟨v2, rfl, HO.out, HB2.out⟩
        · rw [if_neg (by omega)] at h
          injection h with h1 h2
          subst h1 h2
          have d0 : decide (a1 < 0) = false := decide_eq_false (by omega)
          have d1 : decide ((l0_0.length : Int) ≤ a1) = true := decide_eq_true (by omega)
          go_enter Tryd.func19, Tryd.ntmps19
          go_wp2_with (go_at_call 10; refine (tree_Check.calls A0_0 c0_0 l0_0 _ _ (Kd.C_alloc HR.out _) HC.out (HT.out.alloc _) CK.out).mono ?_; rintro e w1 ⟨rfl, hb⟩; have bx := box_cell hb 0 _ rfl; have HB := Aside0.mk (below_box hb); clear hb)
          refine bodyPost_ret (v := .tuple #[.slice none 0 0, .int .i64 7]) (by simp [results, Tryd.results19, go_sem]) rfl ⟨_, rfl, Kd.R_nil _ _ _ _ _, HB.out⟩
      · rw [if_neg (by omega)] at h
        injection h with h1 h2
        subst h1 h2
        have d0 : decide (a1 < 0) = true := decide_eq_true (by omega)
        go_enter Tryd.func19, Tryd.ntmps19
        go_wp2_with (go_at_call 10; refine (tree_Check.calls A0_0 c0_0 l0_0 _ _ (Kd.C_alloc HR.out _) HC.out (HT.out.alloc _) CK.out).mono ?_; rintro e w1 ⟨rfl, hb⟩; have bx := box_cell hb 0 _ rfl; have HB := Aside0.mk (below_box hb); clear hb)
        refine bodyPost_ret (v := .tuple #[.slice none 0 0, .int .i64 7]) (by simp [results, Tryd.results19, go_sem]) rfl ⟨_, rfl, Kd.R_nil _ _ _ _ _, HB.out⟩
    · rw [if_neg hok] at h hck
      injection h with h1 h2
      subst h1 h2
      have CK := Aside0.mk hck
      clear hck hw
      go_enter Tryd.func19, Tryd.ntmps19
      go_wp2_with (go_at_call 10; refine (tree_Check.calls A0_0 c0_0 l0_0 _ _ (Kd.C_alloc HR.out _) HC.out (HT.out.alloc _) CK.out).mono ?_; rintro e w1 ⟨rfl, hb⟩; have bx := box_cell hb 0 _ rfl; have HB := Aside0.mk (below_box hb); clear hb)
      refine bodyPost_ret (v := .tuple #[.slice none 0 0, .int .i64 1]) (by simp [results, Tryd.results19, go_sem]) rfl ⟨_, rfl, Kd.R_nil _ _ _ _ _, HB.out⟩
  · rw [if_neg hw] at h; exact absurd h (by simp)
end
def phratrylaw08_has.l0 : Nat → List Int → Int → Int → Option (Bool)
  | 0, _, _, _ => none
  | k + 1, x0, x1, x5 => if x5 < (x0.length : Int) then (if 0 ≤ x5 then (if (rd x0 x5) = x1 then (some true) else (phratrylaw08_has.l0 k x0 x1 (wrap64 (x5 + 1)))) else (none)) else (some false)
theorem phratrylaw08_has.mono_l : ∀ k, (∀ y0 y1 y2, LeO (phratrylaw08_has.l0 k y0 y1 y2) (phratrylaw08_has.l0 (k + 1) y0 y1 y2))
  | 0 => fun _ _ _ r h => by simp [phratrylaw08_has.l0] at h
  | k + 1 => by
    have ih0 := phratrylaw08_has.mono_l k
    · intro y0 y1 y2
      unfold phratrylaw08_has.l0
      repeat' first
      | (with_reducible exact ih0 _ _ _)
      | (with_reducible exact LeO.refl _)
      | (with_reducible exact LeO.none _)
      | (with_reducible refine LeO.ite ?_ ?_)
      | (with_reducible refine LeO.bind ?_ (fun _ => ?_))
      | exact ih0 _ _ _
      | exact LeO.none _
      | refine LeO.ite ?_ ?_
      | refine LeO.bind ?_ (fun _ => ?_)
def phratryref02_Level.l0 : Nat → Int → Int → Option (Int)
  | 0, _, _ => none
  | k + 1, x0, x3 => if (Int.tmod x0 2) = 1 then (phratryref02_Level.l0 k (wrap64 (Int.tdiv x0 2)) (wrap64 (x3 + 1))) else (some x3)
def phratryref02_Level.f (k : Nat) (a0 : Int) : Option (Int) := if a0 < 0 then (some (-1)) else (phratryref02_Level.l0 k a0 0)
theorem phratryref02_Level.mono_l : ∀ k, (∀ y0 y1, LeO (phratryref02_Level.l0 k y0 y1) (phratryref02_Level.l0 (k + 1) y0 y1))
  | 0 => fun _ _ r h => by simp [phratryref02_Level.l0] at h
  | k + 1 => by
    have ih0 := phratryref02_Level.mono_l k
    · intro y0 y1
      unfold phratryref02_Level.l0
      repeat' first
      | (with_reducible exact ih0 _ _)
      | (with_reducible exact LeO.refl _)
      | (with_reducible exact LeO.none _)
      | (with_reducible refine LeO.ite ?_ ?_)
      | (with_reducible refine LeO.bind ?_ (fun _ => ?_))
      | exact ih0 _ _
      | exact LeO.none _
      | refine LeO.ite ?_ ?_
      | refine LeO.bind ?_ (fun _ => ?_)
theorem phratryref02_Level.mono : ∀ a0 k, LeO (phratryref02_Level.f k a0) (phratryref02_Level.f (k + 1) a0) := by
  intro a0 k
  have ih0 := phratryref02_Level.mono_l k
  unfold phratryref02_Level.f
  repeat' first
      | (with_reducible exact ih0 _ _)
      | (with_reducible exact LeO.refl _)
      | (with_reducible exact LeO.none _)
      | (with_reducible refine LeO.ite ?_ ?_)
      | (with_reducible refine LeO.bind ?_ (fun _ => ?_))
      | exact ih0 _ _
      | exact LeO.none _
      | refine LeO.ite ?_ ?_
      | refine LeO.bind ?_ (fun _ => ?_)
def phratryref02_half.l0 : Nat → Int → Int → Int → Option (Int)
  | 0, _, _, _ => none
  | k + 1, x3, x4, x5 => if x5 < x3 then (phratryref02_half.l0 k x3 (wrap64 (x4 * 2)) (wrap64 (x5 + 1))) else (some x4)
def phratryref02_half.f (k : Nat) (a0 : Int) : Option (Int) := (phratryref02_Level.f k a0).bind fun t188 => (if t188 < 1 then (some 0) else (phratryref02_half.l0 k t188 1 1))
theorem phratryref02_half.mono_l : ∀ k, (∀ y0 y1 y2, LeO (phratryref02_half.l0 k y0 y1 y2) (phratryref02_half.l0 (k + 1) y0 y1 y2))
  | 0 => fun _ _ _ r h => by simp [phratryref02_half.l0] at h
  | k + 1 => by
    have ih0 := phratryref02_half.mono_l k
    · intro y0 y1 y2
      unfold phratryref02_half.l0
      repeat' first
      | (with_reducible exact ih0 _ _ _)
      | (with_reducible exact phratryref02_Level.mono _ _)
      | (with_reducible exact LeO.refl _)
      | (with_reducible exact LeO.none _)
      | (with_reducible refine LeO.ite ?_ ?_)
      | (with_reducible refine LeO.bind ?_ (fun _ => ?_))
      | exact ih0 _ _ _
      | exact phratryref02_Level.mono _ _
      | exact LeO.none _
      | refine LeO.ite ?_ ?_
      | refine LeO.bind ?_ (fun _ => ?_)
theorem phratryref02_half.mono : ∀ a0 k, LeO (phratryref02_half.f k a0) (phratryref02_half.f (k + 1) a0) := by
  intro a0 k
  have ih0 := phratryref02_half.mono_l k
  unfold phratryref02_half.f
  repeat' first
      | (with_reducible exact ih0 _ _ _)
      | (with_reducible exact phratryref02_Level.mono _ _)
      | (with_reducible exact LeO.refl _)
      | (with_reducible exact LeO.none _)
      | (with_reducible refine LeO.ite ?_ ?_)
      | (with_reducible refine LeO.bind ?_ (fun _ => ?_))
      | exact ih0 _ _ _
      | exact phratryref02_Level.mono _ _
      | exact LeO.none _
      | refine LeO.ite ?_ ?_
      | refine LeO.bind ?_ (fun _ => ?_)
def phratryref02_Within.j0 : Nat → Int → Int → Bool → Option (Bool)
  | 0, _, _, _ => none
  | k + 1, x0, x1, x11 => if x11 = true then (some false) else (if x1 = 9223372036854775807 then (some true) else ((phratryref02_half.f k x1).bind fun t189 => (if (wrap64 (2 * t189)) = 0 then (some (x0 == x1)) else (if x0 ≥ (wrap64 (x1 - (wrap64 ((wrap64 (2 * t189)) - 1)))) then (some (decide ((wrap64 (x0 - x1)) ≤ (wrap64 ((wrap64 (2 * t189)) - 1))))) else (some false)))))
theorem phratryref02_Within.mono_l : ∀ k, (∀ y0 y1 y2, LeO (phratryref02_Within.j0 k y0 y1 y2) (phratryref02_Within.j0 (k + 1) y0 y1 y2))
  | 0 => fun _ _ _ r h => by simp [phratryref02_Within.j0] at h
  | k + 1 => by
    have ih0 := phratryref02_Within.mono_l k
    · intro y0 y1 y2
      unfold phratryref02_Within.j0
      repeat' first
      | (with_reducible exact ih0 _ _ _)
      | (with_reducible exact phratryref02_half.mono _ _)
      | (with_reducible exact LeO.refl _)
      | (with_reducible exact LeO.none _)
      | (with_reducible refine LeO.ite ?_ ?_)
      | (with_reducible refine LeO.bind ?_ (fun _ => ?_))
      | exact ih0 _ _ _
      | exact phratryref02_half.mono _ _
      | exact LeO.none _
      | refine LeO.ite ?_ ?_
      | refine LeO.bind ?_ (fun _ => ?_)
section
def nameB (t : List S45) (leaf e : Nat) : Bool := decide (e = 2 * leaf) || (decide (e % 2 = 1) && (decide (fstT.getD e 0 ≤ (leaf : Int)) && decide ((leaf : Int) ≤ lstT.getD e 0)) && !decide ((leaf : Int) ∈ (nodeN t e).f3))
def namesN (t : List S45) (leaf : Nat) (l : List Int) : Nat := l.countP (fun e => nameB t leaf e.toNat)
end
end Go.Proofs.YtfgalpfiggnkpaaDoor.PT
