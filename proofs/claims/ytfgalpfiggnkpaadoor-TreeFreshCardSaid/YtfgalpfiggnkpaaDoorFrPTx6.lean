/- What treeFresh_card uses of the printed words and contracts. -/
import Derived.Test.YtfgalpfiggnkpaaDoorFrPTx0
import Derived.Test.YtfgalpfiggnkpaaDoorFrPTx1
import Derived.Test.YtfgalpfiggnkpaaDoorFrPTx3
import Derived.Test.YtfgalpfiggnkpaaDoorFrPTx4
import Derived.Test.YtfgalpfiggnkpaaDoorFrPTx5
namespace Go.Proofs.YtfgalpfiggnkpaaDoor.PT
open Go.RowKit Go.Proofs.YtfgalpfiggnkpaaDoorW.PrintWords Go.Proofs.YtfgalpfiggnkpaaDoorW.PrintLast Go.Proofs.YtfgalpfiggnkpaaDoorW.PrintMore
attribute [local go_sem] max2_int min2_int max_two min_two max_three min_three max_four min_four   -- for this text's walks alone
set_option linter.unusedVariables false
set_option linter.unusedSimpArgs false
section
def resF : Nat → List S45 → Nat → List Int
  | 0, t, x => if 0 < (nodeN t x).f0 then (x : Int) :: (nodeN t x).f3.map (fun u => 2 * u) else []
  | k + 1, t, x => if 0 < (nodeN t x).f0 then (x : Int) :: (nodeN t x).f3.map (fun u => 2 * u) else resF k t (x - 2 ^ k) ++ resF k t (x + 2 ^ k)
def lvlN (x : Nat) : Nat := (lvlT.getD x 0).toNat
theorem resF_own {t : List S45} {x : Nat} (k : Nat) (h : 0 < (nodeN t x).f0) : resF k t x = (x : Int) :: (nodeN t x).f3.map (fun u => 2 * u) := by
  cases k <;> simp only [resF] <;> rw [if_pos h]
theorem resF_zero {t : List S45} {x : Nat} (h : ¬ 0 < (nodeN t x).f0) : resF 0 t x = [] := by simp only [resF]; rw [if_neg h]
theorem resF_succ {t : List S45} {x : Nat} (k : Nat) (h : ¬ 0 < (nodeN t x).f0) : resF (k + 1) t x = resF k t (x - 2 ^ k) ++ resF k t (x + 2 ^ k) := by simp only [resF]; rw [if_neg h]
def kidOk (x : Nat) : Bool :=
  if lvlN x = 0 then index_Left.f x == some (0, false)
  else (index_Left.f x == some (((x - 2 ^ (lvlN x - 1) : Nat) : Int), true)) && (index_Right.f x == some (((x + 2 ^ (lvlN x - 1) : Nat) : Int), true)) && (lvlN (x - 2 ^ (lvlN x - 1)) == lvlN x - 1) && (lvlN (x + 2 ^ (lvlN x - 1)) == lvlN x - 1)
    && ([1, 3, 7, 15].all fun n => !decide (x < n) || decide (x + 2 ^ (lvlN x - 1) < n))
theorem kid_all : (List.range 15).all kidOk = true := by decide +kernel
theorem kid_no {x : Nat} (hx : x ≤ 14) (h : lvlN x = 0) : index_Left.f x = some (0, false) := by
  have := List.all_eq_true.1 kid_all x (List.mem_range.2 (by omega))
  unfold kidOk at this
  rw [if_pos h] at this
  simpa using this
theorem kid_yes {t : List S45} {x k : Nat} (hv : lvsN t ≠ 0) (hx : x < t.length) (h : lvlN x = k + 1) :
    index_Left.f x = some (((x - 2 ^ k : Nat) : Int), true) ∧ index_Right.f x = some (((x + 2 ^ k : Nat) : Int), true) ∧ lvlN (x - 2 ^ k) = k ∧ lvlN (x + 2 ^ k) = k ∧ x + 2 ^ k < t.length := by
  obtain ⟨_, _, h15, h14⟩ := lst_at t hv x hx
  have h1 := List.all_eq_true.1 kid_all x (List.mem_range.2 (by omega))
  unfold kidOk at h1
  rw [if_neg (by omega), h, Nat.add_sub_cancel] at h1
  simp only [Bool.and_eq_true, beq_iff_eq] at h1
  obtain ⟨⟨⟨⟨a, b⟩, c⟩, d⟩, e⟩ := h1
  refine ⟨a, b, c, d, ?_⟩
  have hn : t.length = 1 ∨ t.length = 3 ∨ t.length = 7 ∨ t.length = 15 := by
    unfold lvsN at hv
    by_cases a1 : t.length = 1
    · exact .inl a1
    · by_cases a2 : t.length = 3
      · exact .inr (.inl a2)
      · by_cases a3 : t.length = 7
        · exact .inr (.inr (.inl a3))
        · by_cases a4 : t.length = 15
          · exact .inr (.inr (.inr a4))
          · exact absurd (by rw [if_neg a1, if_neg a2, if_neg a3, if_neg a4]) hv
  have e2 := List.all_eq_true.1 e t.length (by rcases hn with h | h | h | h <;> rw [h] <;> simp)
  simp only [Bool.or_eq_true, Bool.not_eq_true', decide_eq_false_iff_not, decide_eq_true_eq] at e2
  omega
structure Small (t : List S45) : Prop where
  lv : lvsN t ≠ 0
  un : ∀ x, (nodeN t x).f3.length ≤ 8 ∧ ∀ u ∈ (nodeN t x).f3, 0 ≤ u ∧ u ≤ 7
theorem resF_len {t : List S45} (hs : Small t) : ∀ (k x : Nat), (resF k t x).length ≤ 9 * 2 ^ k := by
  intro k
  induction k with
  | zero =>
    intro x
    by_cases h : 0 < (nodeN t x).f0
    · rw [resF_own 0 h]
      have := (hs.un x).1
      simp; omega
    · rw [resF_zero h]; simp
  | succ k ih =>
    intro x
    by_cases h : 0 < (nodeN t x).f0
    · rw [resF_own _ h]
      have := (hs.un x).1
      have : 1 ≤ 2 ^ (k + 1) := Nat.one_le_two_pow
      simp; omega
    · rw [resF_succ _ h, List.length_append]
      have h1 := ih (x - 2 ^ k)
      have h2 := ih (x + 2 ^ k)
      rw [Nat.pow_succ]
      omega
def ResPost (w0 w : World) (v : Value) (r : List Int) (e : Ending) (w' : World) : Prop :=
  ∃ v' : Value, e = .returned v' ∧ Kd.R (Kd.int .i64) 3 w' w0.heap.size (fun _ => True) v' r ∧ Below w0.heap.size w0 w' ∧ w.grownBy w' v.ownBlock ∧ (v'.ownBlock = v.ownBlock ∨ ∃ b, v'.ownBlock = some b ∧ w.heap.size ≤ b)
set_option maxRecDepth 100000 in
set_option maxHeartbeats 4000000 in
theorem res_own (A0 : Option Addr) (c0 : Nat) (t : List S45) (w0 w : World) (x : Nat) (v : Value) (l : List Int) (HR : Aside0 (Kd.C k45 w0 A0 t.length t)) (HC : Aside0 (t.length ≤ c0)) (HSm : Aside0 (Small t)) (hx : (x : Int) ≤ 14) (hxl : x < t.length) (hpub : 0 < (nodeN t x).f0)
    (HO : Aside0 (Kd.R (Kd.int .i64) 3 w w0.heap.size (fun _ => True) v l)) (HB : Aside0 (Below w0.heap.size w0 w)) (hll : l.length ≤ 100000) :
    Calls Tryd.prog 37 #[v, .agg #[.slice A0 t.length c0], .int .i64 x] w (ResPost w0 w v (l ++ ((x : Int) :: (nodeN t x).f3.map (fun u => 2 * u)))) := by
  have hu45 := Tryd.underlying45
  have hu24 := Tryd.underlying24
  obtain ⟨ad, A3, c3, e3, x0, x1, x2, x3, hl3, hi3⟩ := at_T45 HR.out (x : Int) (by omega) (by omega)
  rw [rd_at] at x0 x1 x2 x3 hl3 hi3
  rw [Int.toNat_natCast] at x0 x1 x2 x3
  cases e3
  replace x0 := (HB.out.cell (World.block_lt_of_cell? _ _ x0)).trans x0
  replace x1 := (HB.out.cell (World.block_lt_of_cell? _ _ x1)).trans x1
  replace x2 := (HB.out.cell (World.block_lt_of_cell? _ _ x2)).trans x2
  replace x3 := (HB.out.cell (World.block_lt_of_cell? _ _ x3)).trans x3
  replace x0 := cell_alloc x0 (Obj.cells #[.slice (some ad) t.length c0] 24)
  replace x1 := cell_alloc x1 (Obj.cells #[.slice (some ad) t.length c0] 24)
  replace x2 := cell_alloc x2 (Obj.cells #[.slice (some ad) t.length c0] 24)
  replace x3 := cell_alloc x3 (Obj.cells #[.slice (some ad) t.length c0] 24)
  have hun := HSm.out.un x
  have HU := Aside0.mk hun
  have hu8 : ((nodeN t x).f3.length : Int) ≤ 8 := by omega
  have HC3 := Aside0.mk hi3
  clear hun hi3 hl3
  generalize hN : nodeN t x = nd at *
  have HND := Aside0.mk hN
  clear hN
  go_enter Tryd.func37, Tryd.ntmps37
  go_wp2_with (at_builtin; (refine Kd.R_append (Kd.int .i64) (w0 := w0) w0.heap.size rfl (.tmp 22) (.tmp 24) 32 3 (.int .i64 0) 8 rfl Tryd.underlying32 intInfo rfl (by decide) (by omega) v l (x : Int) [.int .i64 (x : Int)] (fun _ => True) (fun _ => False) rfl ?aX ?aP (fun _ hk => hk.elim) (fun _ _ => trivial) ?aO ?aB ?aS ?aL ?_); (case aX => (simp [Act.eval]; done)); (case aP => exact rfl); (case aO => exact Kd.R_alloc (Kd.R_alloc HO.out _) _); (case aB => exact below_alloc (below_alloc HB.out _) _); (case aS => have := HB.out.size; simp; omega); (case aL => omega); intro v1 w1 ho hb hg hat; have hbn : ∀ k, w.heap.size ≤ k → some k ≠ v.ownBlock := (fun k hk e => absurd (Kd.R_lt HO.out k e.symm) (by omega)); have bx3 : w1.cell? ⟨w.heap.size + 1, 3, none⟩ = some (.slice A3 nd.f3.length c3) := (by rw [cell_grown hg (by simp) (hbn (w.heap.size + 1) (by omega))]; simp); clear hbn; have HO1 := Aside0.mk ho; have HB1 := Aside0.mk hb; have HG1 := Aside0.mk hg; have HA1 := Aside0.mk hat; clear ho hb hg hat)
  go_wp2
  have hbn : ∀ k, w.heap.size ≤ k → some k ≠ v.ownBlock := (fun k hk e => absurd (Kd.R_lt HO.out k e.symm) (by omega))
  have HG2 : Aside0 (w.grownBy w1 v.ownBlock) := ⟨grow_then (grow_then (grow_alloc _ _) (grow_alloc _ _) (.inl rfl)) HG1.out (.inl rfl)⟩
  go_loopw [0, 29] (fun v0 v29 wr => ∃ k : Nat, k ≤ nd.f3.length ∧ v29 = .int .i64 k ∧ Aside0 (Kd.R (Kd.int .i64) 3 wr w0.heap.size (fun _ => True) v0 (l ++ [(x : Int)] ++ (nd.f3.take k).map (fun u => 2 * u))) ∧ Aside0 (Below w0.heap.size w0 wr) ∧ Aside0 (w.grownBy wr v.ownBlock) ∧ Aside0 (v0.ownBlock = v.ownBlock ∨ ∃ b, v0.ownBlock = some b ∧ w.heap.size ≤ b))
    (fun _ v29 _ => nd.f3.length - (intOf v29).toNat)
  case atStart => exact ⟨0, Nat.zero_le _, rfl, ⟨by simpa using HO1.out⟩, HB1, HG2, ⟨by rcases HA1.out with h | ⟨b, h, hb⟩; exact .inl h; exact .inr ⟨b, h, by simp at hb; omega⟩⟩⟩
  case round =>
    clear HO1 HB1 HG1 HA1 HG2 bx3
    obtain ⟨k, hk, rfl, HO1, HB1, HG1, HA1⟩ := hrel
    by_cases hlt : k < nd.f3.length
    · obtain ⟨ae, ee, hxe⟩ := Kd.at_int HC3.out (k : Int) (by omega) (by omega)
      cases ee
      rw [Int.toNat_natCast] at hxe
      replace hxe := (HB1.out.cell (World.block_lt_of_cell? _ _ hxe)).trans hxe
      have hget : rd nd.f3 (k : Int) = nd.f3[k] := by unfold rd; simp [hlt]
      have hmul : 0 ≤ rd nd.f3 (k : Int) ∧ rd nd.f3 (k : Int) ≤ 7 := by rw [hget]; exact HU.out.2 _ (List.getElem_mem _)
      have HM := Aside0.mk hmul
      have HGT := Aside0.mk hget
      clear hget
      obtain ⟨hm0, hm7⟩ := hmul
      generalize hrd : rd nd.f3 (k : Int) = e1 at *
      have HRD := Aside0.mk hrd
      clear hrd
      have hll2 : (l ++ [(x : Int)] ++ (nd.f3.take k).map (fun u => 2 * u)).length ≤ 200000 := by simp; omega
      go_wp2_with (at_builtin; (refine Kd.R_append (Kd.int .i64) (w0 := w0) w0.heap.size rfl (.tmp 33) (.tmp 36) 32 3 (.int .i64 0) 8 rfl Tryd.underlying32 intInfo rfl (by decide) (by omega) u0 (l ++ [(x : Int)] ++ (nd.f3.take k).map (fun u => 2 * u)) (2 * e1) [.int .i64 (2 * e1)] (fun _ => True) (fun _ => False) rfl ?aX ?aP (fun _ hk => hk.elim) (fun _ _ => trivial) ?aO ?aB ?aS ?aL ?_); (case aX => (first | rfl | (simp [Act.eval]; done))); (case aP => exact rfl); (case aO => exact HO1.out); (case aB => exact HB1.out); (case aS => exact HB1.out.size); (case aL => omega); intro v2 w2 ho hb hg hat; have HO2 := Aside0.mk ho; have HB2 := Aside0.mk hb; have HG2 := Aside0.mk hg; have HA2 := Aside0.mk hat; clear ho hb hg hat)
      go_roundw
      case rel =>
        refine ⟨k + 1, by omega, by go_num, ⟨?_⟩, HB2, ⟨grow_then HG1.out HG2.out HA1.out⟩, ⟨at_then HA1.out HA2.out HG1.out.size⟩⟩
        have h := HO2.out
        rw [List.take_succ_eq_append_getElem hlt, List.map_append, ← List.append_assoc]
        rw [← HGT.out]
        exact h
      case measure => simp [intOf]; omega
    · obtain rfl : k = nd.f3.length := by omega
      go_wp2
      refine bodyPost_ret (v := u0) (by simp [results, Tryd.results37, go_sem]) rfl ⟨u0, rfl, ?_, HB1.out, HG1.out, HA1.out⟩
      have h := HO1.out
      rw [List.take_length] at h
      simpa using h
set_option maxRecDepth 100000 in
set_option maxHeartbeats 4000000 in
theorem res_any (A0 : Option Addr) (c0 : Nat) (t : List S45) (w0 : World) (HR : Aside0 (Kd.C k45 w0 A0 t.length t)) (HC : Aside0 (t.length ≤ c0)) (HSm : Aside0 (Small t)) (HT : Aside0 (TabG w0)) : ∀ (k x : Nat) (w : World) (v : Value) (l : List Int), lvlN x = k → x < t.length →
    Kd.R (Kd.int .i64) 3 w w0.heap.size (fun _ => True) v l → Below w0.heap.size w0 w → l.length + 9 * 2 ^ k ≤ 100000 →
    Calls Tryd.prog 37 #[v, .agg #[.slice A0 t.length c0], .int .i64 x] w (ResPost w0 w v (l ++ resF k t x)) := by
  intro k
  induction k with
  | zero =>
    intro x w v l hk hxl ho hb hll
    have h14 : (x : Int) ≤ 14 := by have := (lst_at t HSm.out.lv x hxl).2.2.2; omega
    by_cases hpub : 0 < (nodeN t x).f0
    · rw [resF_own 0 hpub]
      exact res_own A0 c0 t w0 w x v l HR HC HSm h14 hxl hpub ⟨ho⟩ ⟨hb⟩ (by omega)
    · rw [resF_zero hpub, List.append_nil]
      have HL := Aside0.mk (kid_no (by omega) hk)
      have HO := Aside0.mk ho
      have HB := Aside0.mk hb
      clear ho hb
      have hu45 := Tryd.underlying45
      have hu24 := Tryd.underlying24
      obtain ⟨ad, A3, c3, e3, x0, x1, x2, x3, hl3, hi3⟩ := at_T45 HR.out (x : Int) (by omega) (by omega)
      rw [rd_at] at x0 x1 x2 x3 hl3 hi3
      rw [Int.toNat_natCast] at x0 x1 x2 x3
      cases e3
      replace x0 := (HB.out.cell (World.block_lt_of_cell? _ _ x0)).trans x0
      replace x1 := (HB.out.cell (World.block_lt_of_cell? _ _ x1)).trans x1
      replace x2 := (HB.out.cell (World.block_lt_of_cell? _ _ x2)).trans x2
      replace x3 := (HB.out.cell (World.block_lt_of_cell? _ _ x3)).trans x3
      replace x0 := cell_alloc x0 (Obj.cells #[.slice (some ad) t.length c0] 24)
      replace x1 := cell_alloc x1 (Obj.cells #[.slice (some ad) t.length c0] 24)
      replace x2 := cell_alloc x2 (Obj.cells #[.slice (some ad) t.length c0] 24)
      replace x3 := cell_alloc x3 (Obj.cells #[.slice (some ad) t.length c0] 24)
      clear hl3 hi3
      generalize hN : nodeN t x = nd at *
      have HND := Aside0.mk hN
      clear hN
      go_enter Tryd.func37, Tryd.ntmps37
      go_wp2_with (go_at_call 51; refine (index_Left.calls (x : Int) 0 false _ ?hT HL.out).mono ?_; (case hT => exact TabG.below HT.out (below_alloc (below_alloc HB.out _) _)); rintro e w1 ⟨rfl, ⟨nd9, rfl⟩⟩)
      refine bodyPost_ret (v := v) (by simp [results, Tryd.results37, go_sem]) rfl ⟨v, rfl, ?_, ?_, ?_, .inl rfl⟩
      · exact Kd.R_drewN (Kd.R_alloc (Kd.R_alloc HO.out _) _) _
      · exact pw_below_drewN (below_alloc (below_alloc HB.out _) _) _
      · exact grow_then (grow_then (grow_alloc _ _) (grow_alloc _ _) (.inl rfl)) (grow_drew _ _) (.inl rfl)
  | succ k ih =>
    intro x w v l hk hxl ho hb hll
    have h14 : (x : Int) ≤ 14 := by have := (lst_at t HSm.out.lv x hxl).2.2.2; omega
    by_cases hpub : 0 < (nodeN t x).f0
    · rw [resF_own _ hpub]
      exact res_own A0 c0 t w0 w x v l HR HC HSm h14 hxl hpub ⟨ho⟩ ⟨hb⟩ (by omega)
    · rw [resF_succ k hpub, ← List.append_assoc]
      obtain ⟨kl, kr, kk, km, kx⟩ := kid_yes HSm.out.lv hxl hk
      have HL := Aside0.mk kl
      have HRt := Aside0.mk kr
      have HKK := Aside0.mk kk
      have HKM := Aside0.mk km
      have HKX := Aside0.mk kx
      have hn1 := resF_len HSm.out k (x - 2 ^ k)
      have hpw : 2 ^ (k + 1) = 2 * 2 ^ k := by rw [Nat.pow_succ]; omega
      have HLN := Aside0.mk (show l.length + 9 * 2 ^ k ≤ 100000 by omega)
      have HLM := Aside0.mk (show (l ++ resF k t (x - 2 ^ k)).length + 9 * 2 ^ k ≤ 100000 by rw [List.length_append]; omega)
      have HO := Aside0.mk ho
      have HB := Aside0.mk hb
      clear ho hb hn1 hpw hll kl kr kk km kx
      have IH := Aside0.mk ih
      clear ih
      have hu45 := Tryd.underlying45
      have hu24 := Tryd.underlying24
      obtain ⟨ad, A3, c3, e3, x0, x1, x2, x3, hl3, hi3⟩ := at_T45 HR.out (x : Int) (by omega) (by omega)
      rw [rd_at] at x0 x1 x2 x3 hl3 hi3
      rw [Int.toNat_natCast] at x0 x1 x2 x3
      cases e3
      replace x0 := (HB.out.cell (World.block_lt_of_cell? _ _ x0)).trans x0
      replace x1 := (HB.out.cell (World.block_lt_of_cell? _ _ x1)).trans x1
      replace x2 := (HB.out.cell (World.block_lt_of_cell? _ _ x2)).trans x2
      replace x3 := (HB.out.cell (World.block_lt_of_cell? _ _ x3)).trans x3
      replace x0 := cell_alloc x0 (Obj.cells #[.slice (some ad) t.length c0] 24)
      replace x1 := cell_alloc x1 (Obj.cells #[.slice (some ad) t.length c0] 24)
      replace x2 := cell_alloc x2 (Obj.cells #[.slice (some ad) t.length c0] 24)
      replace x3 := cell_alloc x3 (Obj.cells #[.slice (some ad) t.length c0] 24)
      clear hl3 hi3
      generalize hN : nodeN t x = nd at *
      have HND := Aside0.mk hN
      clear hN
      generalize hxl2 : x - 2 ^ k = xl at *
      generalize hxr : x + 2 ^ k = xr at *
      have HXL := Aside0.mk hxl2
      have HXR := Aside0.mk hxr
      clear hxl2 hxr
      go_enter Tryd.func37, Tryd.ntmps37
      go_wp2_with (go_at_call 51; refine (index_Left.calls (x : Int) _ _ _ ?hT HL.out).mono ?_; (case hT => exact TabG.below HT.out (below_alloc (below_alloc HB.out _) _)); rintro e w1 ⟨rfl, ⟨nd9, rfl⟩⟩)
      refine (IH.out xl _ v l HKK.out ?hX ?hO ?hB HLN.out).mono ?_
      case hX => rw [← HXL.out]; exact Nat.lt_of_le_of_lt (Nat.sub_le _ _) hxl
      case hO => exact Kd.R_drewN (Kd.R_alloc (Kd.R_alloc HO.out _) _) _
      case hB => exact pw_below_drewN (below_alloc (below_alloc HB.out _) _) _
      rintro e w1 ⟨v1, rfl, ho, hb, hg, hat⟩
      have hbn : ∀ k, w.heap.size ≤ k → some k ≠ v.ownBlock := (fun k hk e => absurd (Kd.R_lt HO.out k e.symm) (by omega))
      have bx0 : w1.cell? ⟨w.heap.size, 0, none⟩ = some (.slice (some ad) t.length c0) := by
        rw [cell_grown hg (by show w.heap.size < ((w.alloc _).alloc _).heap.size; simp; omega) (hbn w.heap.size (Nat.le_refl _))]
        show ((w.alloc _).alloc _).cell? _ = _
        simp
      have HG1 : Aside0 (w.grownBy w1 v.ownBlock) := ⟨grow_then (grow_then (grow_alloc _ _) (grow_alloc _ _) (.inl rfl)) (grow_then (grow_drew _ _) hg (.inl rfl)) (.inl rfl)⟩
      have HA1 : Aside0 (v1.ownBlock = v.ownBlock ∨ ∃ b, v1.ownBlock = some b ∧ w.heap.size ≤ b) := ⟨at_then (.inl rfl) hat (by show w.heap.size ≤ ((w.alloc _).alloc _).heap.size; simp; omega)⟩
      have HO1 := Aside0.mk ho
      have HB1 := Aside0.mk hb
      clear ho hb hg hat hbn
      dsimp only
      go_wp2_with (go_at_call 52; refine (index_Right.calls (x : Int) _ _ _ ?hT HRt.out).mono ?_; (case hT => exact TabG.below HT.out HB1.out); rintro e w1 ⟨rfl, ⟨nd8, rfl⟩⟩)
      refine (IH.out xr _ v1 _ HKM.out HKX.out ?hO ?hB HLM.out).mono ?_
      case hO => exact Kd.R_drewN HO1.out _
      case hB => exact pw_below_drewN HB1.out _
      rintro e w2 ⟨v2, rfl, ho, hb, hg, hat⟩
      have HO2 := Aside0.mk ho
      have HB2 := Aside0.mk hb
      have HG2 := Aside0.mk hg
      have HA2 := Aside0.mk hat
      clear ho hb hg hat
      dsimp only
      go_wp2
      refine bodyPost_ret (v := v2) (by simp [results, Tryd.results37, go_sem]) rfl ⟨v2, rfl, HO2.out, HB2.out, ?_, ?_⟩
      · exact grow_then HG1.out (grow_then (grow_drew _ _) HG2.out (.inl rfl)) HA1.out
      · exact at_then HA1.out HA2.out HG1.out.size
theorem rising_mem {t : List S45} {l : Int} : ∀ (us : List Int) (f : Int), risingB t l f us = true → ∀ u ∈ us, f ≤ u ∧ u ≤ l ∧ (nodeN t (2 * u).toNat).f0 ≠ 0 := by
  intro us
  induction us with
  | nil => intro f _ u hu; cases hu
  | cons a us ih =>
    intro f h u hu
    simp only [risingB, Bool.and_eq_true, decide_eq_true_eq] at h
    rcases List.mem_cons.1 hu with rfl | hu
    · exact ⟨h.1.1.1, h.1.1.2, h.1.2⟩
    · have := ih (a + 1) h.2 u hu
      exact ⟨by omega, this.2⟩
theorem rising_len {t : List S45} {l : Int} : ∀ (us : List Int) (f : Int), risingB t l f us = true → us ≠ [] → (us.length : Int) ≤ l - f + 1 := by
  intro us
  induction us with
  | nil => intro f _ h; exact absurd rfl h
  | cons a us ih =>
    intro f h _
    simp only [risingB, Bool.and_eq_true, decide_eq_true_eq] at h
    by_cases hus : us = []
    · subst hus; simp; omega
    · have := ih (a + 1) h.2 hus
      simp; omega
theorem ok_parts {t : List S45} (h : okB t = true) (hne : t ≠ []) : lvsN t ≠ 0 ∧ (∀ x, x < t.length → fineB t x = true) ∧ (memsTo t t.length).Nodup ∧ ((lvsN t / 2 : Nat) : Int) ≤ lastTo t t.length := by
  unfold okB at h
  have h1 : t.isEmpty = false := by cases t <;> simp at hne ⊢
  rw [h1] at h
  simp only [Bool.false_or, Bool.and_eq_true, decide_eq_true_eq] at h
  exact ⟨h.1.1.1, fun x hx => List.all_eq_true.1 h.1.1.2 x (List.mem_range.2 hx), h.1.2, h.2⟩
theorem nodeN_out {t : List S45} {x : Nat} (h : t.length ≤ x) : nodeN t x = z45 := by unfold nodeN; rw [List.getD_eq_getElem?_getD, List.getElem?_eq_none h]; rfl
theorem blankB_un {n : S45} (h : blankB n = true) : n.f3 = [] := by
  unfold blankB at h
  simp only [Bool.and_eq_true] at h
  exact List.isEmpty_iff.1 h.2
theorem leafB_un {n : S45} (h : leafB n = true) : n.f3 = [] := by
  unfold leafB at h
  rcases Bool.or_eq_true_iff.1 h with h | h
  · exact blankB_un h
  · simp only [Bool.and_eq_true] at h; exact List.isEmpty_iff.1 h.2
theorem span_fine : (List.range 15).all (fun x => decide (0 ≤ fstT.getD x 0) && decide (lstT.getD x 0 ≤ 7)) = true := by decide +kernel
theorem un_at {t : List S45} (h : okB t = true) {x : Nat} (hx : x < t.length) (hu : (nodeN t x).f3 ≠ []) : x % 2 = 1 ∧ risingB t (lstT.getD x 0) (fstT.getD x 0) (nodeN t x).f3 = true := by
  have hne : t ≠ [] := by intro e; subst e; simp at hx
  have hf := (ok_parts h hne).2.1 x hx
  unfold fineB at hf
  by_cases h2 : x % 2 = 1
  · rw [if_pos h2] at hf
    refine ⟨h2, ?_⟩
    unfold parentB at hf
    by_cases h3 : (nodeN t x).f0 < 1 ∨ (nodeN t x).f1 ≠ 0 ∨ (nodeN t x).f2 ≠ 0
    · rw [if_pos h3] at hf; exact absurd (blankB_un hf) hu
    · rw [if_neg h3] at hf; exact hf
  · rw [if_neg h2] at hf; exact absurd (leafB_un hf) hu
theorem small_of_ok {t : List S45} (h : okB t = true) (hne : t ≠ []) : Small t := by
  obtain ⟨h1, h2, h3, h4⟩ := ok_parts h hne
  refine ⟨h1, fun x => ?_⟩
  by_cases hu : (nodeN t x).f3 = []
  · rw [hu]; exact ⟨by simp, fun u hu => by cases hu⟩
  · by_cases hx : x < t.length
    · have h14 := (lst_at t h1 x hx).2.2.2
      have hs := List.all_eq_true.1 span_fine x (List.mem_range.2 (by omega))
      simp only [Bool.and_eq_true, decide_eq_true_eq] at hs
      obtain ⟨_, hr⟩ := un_at h hx hu
      have hl := rising_len _ _ hr hu
      refine ⟨by omega, fun u hm => ?_⟩
      have := rising_mem _ _ hr u hm
      omega
    · rw [nodeN_out (by omega)] at hu; exact absurd rfl hu
def resT (t : List S45) (x : Nat) : List Int := resF (lvlN x) t x
theorem lvl_le : (List.range 15).all (fun x => decide (lvlN x ≤ 3)) = true := by decide +kernel
theorem resT_len {t : List S45} (h : okB t = true) {x : Nat} (hx : x < t.length) : (resT t x).length ≤ 72 := by
  have hne : t ≠ [] := by intro e; subst e; simp at hx
  have hs := small_of_ok h hne
  have h14 := (lst_at t hs.lv x hx).2.2.2
  have h3 := of_decide_eq_true (List.all_eq_true.1 lvl_le x (List.mem_range.2 (by omega)))
  have := resF_len hs (lvlN x) x
  have h8 : 2 ^ lvlN x ≤ 2 ^ 3 := Nat.pow_le_pow_right (by omega) h3
  unfold resT
  omega
theorem tree_resolution.any (A0 : Option Addr) (c0 : Nat) (t : List S45) (w0 w : World) (x : Nat) (v : Value) (l : List Int) (HR : Aside0 (Kd.C k45 w0 A0 t.length t)) (HC : Aside0 (t.length ≤ c0)) (hok : okB t = true) (HT : Aside0 (TabG w0)) (hx : x < t.length)
    (ho : Kd.R (Kd.int .i64) 3 w w0.heap.size (fun _ => True) v l) (hb : Below w0.heap.size w0 w) (hl : l.length ≤ 90000) :
    Calls Tryd.prog 37 #[v, .agg #[.slice A0 t.length c0], .int .i64 x] w (ResPost w0 w v (l ++ resT t x)) := by
  have hne : t ≠ [] := by intro e; subst e; simp at hx
  have hs := small_of_ok hok hne
  have h14 := (lst_at t hs.lv x hx).2.2.2
  have h3 := of_decide_eq_true (List.all_eq_true.1 lvl_le x (List.mem_range.2 (by omega)))
  have h8 : 2 ^ lvlN x ≤ 2 ^ 3 := Nat.pow_le_pow_right (by omega) h3
  exact res_any A0 c0 t w0 HR HC ⟨hs⟩ HT (lvlN x) x w v l rfl hx ho hb (by omega)
end
def index_Sibling.f (a0 : Int) (a1 : Int) : Option (Int × Bool) := (index_Parent.f a0 a1).bind fun bt163 => (if bt163.2 = true then (some (wrap64 ((wrap64 (2 * bt163.1)) - a0), true)) else (some (0, false)))
set_option maxHeartbeats 8000000 in
set_option maxRecDepth 100000 in
theorem index_Sibling.calls (a0 : Int) (a1 : Int) (r1 : Int) (r2 : Bool) (w : World) (hT : TabG w) (h : index_Sibling.f a0 a1 = some (r1, r2)) :
    Calls Tryd.prog 62 #[.int .i64 a0, .int .i64 a1] w fun e w' => e = .returned (.tuple #[.int .i64 r1, .bool r2]) ∧ Drawn0 w w' := by
  have HT := Aside0.mk hT
  clear hT
  have H : ((index_Parent.f a0 a1).bind fun bt163 => (if bt163.2 = true then (some (wrap64 ((wrap64 (2 * bt163.1)) - a0), true)) else (some (0, false)))) = some (r1, r2) := h
  clear h
  replace H := Option.bind_eq_some_iff.mp H
  obtain ⟨⟨t163, t164⟩, A30, H⟩ := H
  replace H : (if t164 = true then (some (wrap64 ((wrap64 (2 * t163)) - a0), true)) else (some (0, false))) = some (r1, r2) := H
  have A3 := Aside0.mk A30
  clear A30
  by_cases c4 : t164 = true
  · subst c4
    have H1 : (some (wrap64 ((wrap64 (2 * t163)) - a0), true)) = some (r1, r2) := by rw [if_pos rfl] at H; exact H
    clear H
    have H := H1
    clear H1
    simp only [Option.some.injEq, Prod.mk.injEq] at H
    obtain ⟨rfl, rfl⟩ := H
    go_enter Tryd.func62, Tryd.ntmps62
    go_wp2_with (first | ((with_reducible refine gate_callee (f := 59) rfl ?_); refine goesL_ (some 11) rfl rfl Tryd.func59 (by kernel_rfl) rfl #[.int .i64 a0, .int .i64 a1] rfl (by (try simp only [List.map_toArray, List.map_cons, List.map_nil]); first | done | rfl | (simp only [List.length_drop, List.length_take]; rfl)) ?_; (with_reducible refine (index_Parent.calls a0 a1 t163 true _ ?side1 A3.out).mono ?_); (case side1 => repeat (first | exact HT.out | exact TabG.below HT.out HB.out | (with_reducible refine TabG.alloc ?_ _) | (with_reducible refine TabG.drewN ?_ _) | (with_reducible refine TabG.drew ?_) | exact TabG.below HT.out (by repeat (first | (with_reducible first | exact HB.out | apply below_alloc | apply pw_below_drewN | apply below_drew1) | exact HB.out)))); rintro e w' ⟨rfl, ⟨nd, rfl⟩⟩; refine ⟨_, rfl, ?_⟩))
    go_ret2
    exact ⟨by first | rfl | (simp; done) | (simp [*]; done), by repeat (first | exact Drawn0.refl _ | apply Drawn0.step)⟩
  · replace c4 := Bool.eq_false_iff.mpr c4
    subst c4
    have H1 : (some (0, false)) = some (r1, r2) := by rw [if_neg (show ¬ (false = true) by decide)] at H; exact H
    clear H
    have H := H1
    clear H1
    simp only [Option.some.injEq, Prod.mk.injEq] at H
    obtain ⟨rfl, rfl⟩ := H
    go_enter Tryd.func62, Tryd.ntmps62
    go_wp2_with (first | ((with_reducible refine gate_callee (f := 59) rfl ?_); refine goesL_ (some 11) rfl rfl Tryd.func59 (by kernel_rfl) rfl #[.int .i64 a0, .int .i64 a1] rfl (by (try simp only [List.map_toArray, List.map_cons, List.map_nil]); first | done | rfl | (simp only [List.length_drop, List.length_take]; rfl)) ?_; (with_reducible refine (index_Parent.calls a0 a1 t163 false _ ?side1 A3.out).mono ?_); (case side1 => repeat (first | exact HT.out | exact TabG.below HT.out HB.out | (with_reducible refine TabG.alloc ?_ _) | (with_reducible refine TabG.drewN ?_ _) | (with_reducible refine TabG.drew ?_) | exact TabG.below HT.out (by repeat (first | (with_reducible first | exact HB.out | apply below_alloc | apply pw_below_drewN | apply below_drew1) | exact HB.out)))); rintro e w' ⟨rfl, ⟨nd, rfl⟩⟩; refine ⟨_, rfl, ?_⟩))
    go_ret2
    exact ⟨by first | rfl | (simp; done) | (simp [*]; done), by repeat (first | exact Drawn0.refl _ | apply Drawn0.step)⟩
def index_Copath.l0 : Nat → Int → List Int → List Int → Int → Int → Option (List Int)
  | 0, _, _, _, _, _ => none
  | k + 1, x1, x5, x12, x13, x14 => if x14 < x13 then (if 0 ≤ x14 then (if x14 < (x12.length : Int) then ((index_Sibling.f (rd x12 x14) x1).bind fun bt169 => (if bt169.2 = true then (if x5.length < 17592186044416 then (index_Copath.l0 k x1 (x5 ++ [bt169.1]) x12 x13 (wrap64 (x14 + 1))) else (none)) else (index_Copath.l0 k x1 x5 x12 x13 (wrap64 (x14 + 1))))) else (none)) else (none)) else (some x5)
def index_Copath.f (k : Nat) (a0 : Int) (a1 : Int) : Option (List Int) := (index_up.f k a0 a1).bind fun t165 => (index_Copath.l0 k a1 ([] : List Int) t165 (t165.length : Int) 0)
theorem index_Copath.mono_l : ∀ k, (∀ y0 y1 y2 y3 y4, LeO (index_Copath.l0 k y0 y1 y2 y3 y4) (index_Copath.l0 (k + 1) y0 y1 y2 y3 y4))
  | 0 => fun _ _ _ _ _ r h => by simp [index_Copath.l0] at h
  | k + 1 => by
    have ih0 := index_Copath.mono_l k
    · intro y0 y1 y2 y3 y4
      unfold index_Copath.l0
      repeat' first
      | (with_reducible exact ih0 _ _ _ _ _)
      | (with_reducible exact index_up.mono _ _ _)
      | (with_reducible exact LeO.refl _)
      | (with_reducible exact LeO.none _)
      | (with_reducible refine LeO.ite ?_ ?_)
      | (with_reducible refine LeO.bind ?_ (fun _ => ?_))
      | exact ih0 _ _ _ _ _
      | exact index_up.mono _ _ _
      | exact LeO.none _
      | refine LeO.ite ?_ ?_
      | refine LeO.bind ?_ (fun _ => ?_)
theorem index_Copath.mono : ∀ a0 a1 k, LeO (index_Copath.f k a0 a1) (index_Copath.f (k + 1) a0 a1) := by
  intro a0 a1 k
  have ih0 := index_Copath.mono_l k
  unfold index_Copath.f
  repeat' first
      | (with_reducible exact ih0 _ _ _ _ _)
      | (with_reducible exact index_up.mono _ _ _)
      | (with_reducible exact LeO.refl _)
      | (with_reducible exact LeO.none _)
      | (with_reducible refine LeO.ite ?_ ?_)
      | (with_reducible refine LeO.bind ?_ (fun _ => ?_))
      | exact ih0 _ _ _ _ _
      | exact index_up.mono _ _ _
      | exact LeO.none _
      | refine LeO.ite ?_ ?_
      | refine LeO.bind ?_ (fun _ => ?_)
set_option maxHeartbeats 8000000 in
set_option maxRecDepth 100000 in
theorem index_Copath.calls (k : Nat) (a0 : Int) (a1 : Int) (r : List Int) (w : World) (hT : TabG w) (h : index_Copath.f k a0 a1 = some r) :
    Calls Tryd.prog 50 #[.int .i64 a0, .int .i64 a1] w fun e w' => ∃ v0_ : Value, e = .returned (v0_) ∧ Kd.R (Kd.int .i64) 3 w' w.heap.size (fun _ => True) v0_ r ∧ Below w.heap.size w w' := by
  have HB := Aside0.mk (Below.refl w.heap.size w)
  have HT := Aside0.mk hT
  clear hT
  have H : ((index_up.f k a0 a1).bind fun t165 => (index_Copath.l0 k a1 ([] : List Int) t165 (t165.length : Int) 0)) = some r := h
  clear h
  replace H := Option.bind_eq_some_iff.mp H
  obtain ⟨t165, A30, H⟩ := H
  replace H : (index_Copath.l0 k a1 ([] : List Int) t165 (t165.length : Int) 0) = some r := H
  have A3 := Aside0.mk A30
  clear A30
  have H' := Aside0.mk H
  clear H
  go_enter Tryd.func50, Tryd.ntmps50
  go_wp2_with (first | ((with_reducible refine gate_callee (f := 45) rfl ?_); refine goesL_ (some 12) rfl rfl Tryd.func45 (by kernel_rfl) rfl #[.int .i64 a0, .int .i64 a1] rfl (by (try simp only [List.map_toArray, List.map_cons, List.map_nil]); first | done | rfl | (simp only [List.length_drop, List.length_take]; rfl)) ?_; (with_reducible refine (index_up.calls k a0 a1 t165 _ ?side1 A3.out).mono ?_); (case side1 => repeat (first | exact HT.out | exact TabG.below HT.out HB.out | (with_reducible refine TabG.alloc ?_ _) | (with_reducible refine TabG.drewN ?_ _) | (with_reducible refine TabG.drew ?_) | exact TabG.below HT.out (by repeat (first | (with_reducible first | exact HB.out | apply below_alloc | apply pw_below_drewN | apply below_drew1) | exact HB.out)))); rintro e w4 ⟨v166, rfl, ho0, hb⟩; refine ⟨_, rfl, ?_⟩; have n0_ := Aside0.mk (Kd.R_lower ho0 (below_size (by repeat (first | (with_reducible first | exact HB.out | apply below_alloc | apply pw_below_drewN | apply below_drew1) | exact HB.out)))); have n1_ := Aside0.mk (below_step (by repeat (first | (with_reducible first | exact HB.out | apply below_alloc | apply pw_below_drewN | apply below_drew1) | exact HB.out)) hb); clear HB; have HO167 := n0_; have HB := n1_; clear n0_ n1_; (try clear hb); (try clear hb2); (try clear hk); (try clear hi); (try clear ho0); obtain ⟨Ao5, co5, eo5⟩ := Kd.R_slice HO167.out; subst eo5))
  go_loopg [5, 14] k (fun kq v5 v14 w' => ∃ (x5_1 : List Int) (x14_1 : Int), v14 = .int .i64 x14_1 ∧ Aside0 (index_Copath.l0 kq a1 x5_1 t165 (t165.length : Int) x14_1 = some r) ∧ Aside0 (kq ≤ k) ∧ Aside0 (Kd.R (Kd.int .i64) 3 w' w.heap.size (fun k_ => some k_ ≠ ((.slice Ao5 t165.length co5) : Value).ownBlock) v5 x5_1) ∧ Aside0 (Kd.R (Kd.int .i64) 3 w' w.heap.size (fun k_ => some k_ ≠ (v5 : Value).ownBlock) (.slice Ao5 t165.length co5) t165) ∧ Aside0 (Below w.heap.size w w'))
  case atStart => exact ⟨(([] : List Int)), (0), (by first | rfl | (simp; done) | (simp [*]; done)), H', ⟨Nat.le_refl _⟩, ⟨by first | exact Kd.R_nil _ _ _ _ _ | exact Kd.N_nil _ _ _ _ _ | exact Kd.V_nil _ _ _ _ _ | exact Kd.Q_nil _ _ _ _ _ | exact Kd.S_nil _ _ _ _ _⟩, ⟨by (with_reducible repeat (first | apply Kd.R_alloc | apply Kd.R_drewN | apply Kd.R_drew)); exact Kd.R_mono HO167.out (fun _ hk => (by simp [Value.ownBlock]))⟩, ⟨by repeat (first | (with_reducible first | exact HB.out | apply below_alloc | apply pw_below_drewN | apply below_drew1) | exact HB.out)⟩⟩
  case round =>
    clear H'
    try clear p2
    try clear c4
    try clear c5
    obtain ⟨x5_1, x14_1, rfl, HA, HK1, HO_5, HO_12, HB⟩ := hrel
    cases gk with
    | zero => exact absurd HA.out (by simp [index_Copath.l0])
    | succ k1 =>
      have H := HA.out
      clear HA
      simp only [index_Copath.l0] at H
      by_cases c6 : x14_1 < (t165.length : Int)
      · rw [if_pos c6] at H
        have c6b0 : decide (x14_1 < (t165.length : Int)) = true := decide_eq_true c6
        clear c6
        by_cases c7 : 0 ≤ x14_1
        · rw [if_pos c7] at H
          have c7b0 : decide (0 ≤ x14_1) = true := decide_eq_true c7
          clear c7
          by_cases c8 : x14_1 < (t165.length : Int)
          · rw [if_pos c8] at H
            have c8b0 : decide (x14_1 < (t165.length : Int)) = true := decide_eq_true c8
            clear c8
            replace H := Option.bind_eq_some_iff.mp H
            obtain ⟨⟨t169, t170⟩, A90, H⟩ := H
            replace H : (if t170 = true then (if x5_1.length < 17592186044416 then (index_Copath.l0 k1 a1 (x5_1 ++ [t169]) t165 (t165.length : Int) (wrap64 (x14_1 + 1))) else (none)) else (index_Copath.l0 k1 a1 x5_1 t165 (t165.length : Int) (wrap64 (x14_1 + 1)))) = some r := H
            have A9 := Aside0.mk A90
            clear A90
            by_cases c10 : t170 = true
            · subst c10
              have H1 : (if x5_1.length < 17592186044416 then (index_Copath.l0 k1 a1 (x5_1 ++ [t169]) t165 (t165.length : Int) (wrap64 (x14_1 + 1))) else (none)) = some r := by rw [if_pos rfl] at H; exact H
              clear H
              have H := H1
              clear H1
              by_cases c11 : x5_1.length < 17592186044416
              · rw [if_pos c11] at H
                have LMc11 := Aside0.mk c11
                clear c11
                obtain ⟨y171, hy171⟩ : ∃ y_ : List Int, y_ = (x5_1 ++ [t169]) := ⟨_, rfl⟩
                replace H : (index_Copath.l0 k1 a1 y171 t165 (t165.length : Int) (wrap64 (x14_1 + 1))) = some r := by first | (rw [hy171]; with_reducible exact H) | (have H2_ := (Option.bind_some _ _).symm.trans H; rw [hy171]; with_reducible exact H2_) | (have H2_ := (Option.bind_some _ _).symm.trans H; with_reducible exact H2_) | with_reducible exact H | (rw [hy171]; exact H) | exact H
                have Ny171 := Aside0.mk hy171
                clear hy171
                have H' := Aside0.mk H
                clear H
                have p168 : 0 ≤ (x14_1 : Int) := of_decide_eq_true (by first | (with_reducible assumption) | assumption)
                have q168 : x14_1 < (t165.length : Int) := of_decide_eq_true (by first | (with_reducible assumption) | assumption)
                obtain ⟨ad168, e168, hx168_0⟩ := Kd.at_int (Kd.R_reads' HO_12.out).2.2 x14_1 p168 q168
                cases e168
                replace p168 := eq_true p168
                replace q168 := eq_true q168
                go_wp2_with (first | ((with_reducible refine gate_callee (f := 62) rfl ?_); refine goesL_ (some 21) rfl rfl Tryd.func62 (by kernel_rfl) rfl #[.int .i64 (rd t165 x14_1), .int .i64 a1] rfl (by (try simp only [List.map_toArray, List.map_cons, List.map_nil]); first | done | rfl | (simp only [List.length_drop, List.length_take]; rfl)) ?_; (with_reducible refine (index_Sibling.calls (rd t165 x14_1) a1 t169 true _ ?side1 A9.out).mono ?_); (case side1 => repeat (first | exact HT.out | exact TabG.below HT.out HB.out | (with_reducible refine TabG.alloc ?_ _) | (with_reducible refine TabG.drewN ?_ _) | (with_reducible refine TabG.drew ?_) | exact TabG.below HT.out (by repeat (first | (with_reducible first | exact HB.out | apply below_alloc | apply pw_below_drewN | apply below_drew1) | exact HB.out)))); rintro e w' ⟨rfl, ⟨nd, rfl⟩⟩; refine ⟨_, rfl, ?_⟩) | ((with_reducible refine gate_builtin (b := .append) (xs := #[.tmp 25, .tmp 27]) rfl ?_); at_builtin; refine Kd.R_append (Kd.int .i64) (w0 := w) w.heap.size rfl (.tmp 25) (.tmp 27) 32 3 (.int .i64 0) 8 rfl Tryd.underlying32 info3 rfl (by decide) (by omega) u5 x5_1 t169 [.int .i64 t169] (fun k_ => some k_ ≠ (.slice (some ad168) t165.length co5 : Value).ownBlock) (fun _ => False) rfl rfl ?aP (fun _ hk => hk.elim) ?aF ?aO ?aB ?aS ?aL ?_; (case aP => exact rfl); (case aB => exact (by repeat (first | (with_reducible first | exact HB.out | apply below_alloc | apply pw_below_drewN | apply below_drew1) | exact HB.out))); (case aF => exact (fun k_ hk => Kd.fresh' (Kd.R_lt (by (with_reducible repeat (first | apply Kd.R_alloc | apply Kd.R_drewN | apply Kd.R_drew)); exact HO_12.out)) k_ hk)); (case aO => exact (by (with_reducible repeat (first | apply Kd.R_alloc | apply Kd.R_drewN | apply Kd.R_drew)); exact HO_5.out)); (case aS => exact (below_size (by repeat (first | (with_reducible first | exact HB.out | apply below_alloc | apply pw_below_drewN | apply below_drew1) | exact HB.out)))); (case aL => have := LMc11.out; omega); intro v172 w12 ho hb hg hat; rw [← Ny171.out] at ho; have n0_ := Aside0.mk (Kd.R_after (ok := (fun _ => True)) (by (with_reducible repeat (first | apply Kd.R_alloc | apply Kd.R_drewN | apply Kd.R_drew)); exact Kd.R_mono HO_12.out (fun _ hk => ⟨trivial, hk⟩)) hg hat); have n1_ := Aside0.mk (hb); have n2_ := Aside0.mk (ho); clear HO_12; clear HB; clear HO_5; have HO_12 := n0_; have HB := n1_; have HO173 := n2_; clear n0_ n1_ n2_; clear ho hb hg hat))
                go_roundg k1
                case measure => have := HK1.out; omega
                case rel => exact ⟨(y171), (wrap64 (x14_1 + 1)), (by first | rfl | (simp; done) | (simp [*]; done)), H', ⟨by have := HK1.out; omega⟩, ⟨by (with_reducible repeat (first | apply Kd.R_alloc | apply Kd.R_drewN | apply Kd.R_drew)); exact HO173.out⟩, ⟨by (with_reducible repeat (first | apply Kd.R_alloc | apply Kd.R_drewN | apply Kd.R_drew)); exact Kd.R_mono HO_12.out (fun _ hk => hk.2)⟩, ⟨by repeat (first | (with_reducible first | exact HB.out | apply below_alloc | apply pw_below_drewN | apply below_drew1) | exact HB.out)⟩⟩
              · rw [if_neg c11] at H
                exact absurd H (by simp)
            · replace c10 := Bool.eq_false_iff.mpr c10
              subst c10
              have H1 : (index_Copath.l0 k1 a1 x5_1 t165 (t165.length : Int) (wrap64 (x14_1 + 1))) = some r := by rw [if_neg (show ¬ (false = true) by decide)] at H; exact H
              clear H
              have H := H1
              clear H1
              have H' := Aside0.mk H
              clear H
              have p168 : 0 ≤ (x14_1 : Int) := of_decide_eq_true (by first | (with_reducible assumption) | assumption)
              have q168 : x14_1 < (t165.length : Int) := of_decide_eq_true (by first | (with_reducible assumption) | assumption)
              obtain ⟨ad168, e168, hx168_0⟩ := Kd.at_int (Kd.R_reads' HO_12.out).2.2 x14_1 p168 q168
              cases e168
              replace p168 := eq_true p168
              replace q168 := eq_true q168
              go_wp2_with (first | ((with_reducible refine gate_callee (f := 62) rfl ?_); refine goesL_ (some 21) rfl rfl Tryd.func62 (by kernel_rfl) rfl #[.int .i64 (rd t165 x14_1), .int .i64 a1] rfl (by (try simp only [List.map_toArray, List.map_cons, List.map_nil]); first | done | rfl | (simp only [List.length_drop, List.length_take]; rfl)) ?_; (with_reducible refine (index_Sibling.calls (rd t165 x14_1) a1 t169 false _ ?side1 A9.out).mono ?_); (case side1 => repeat (first | exact HT.out | exact TabG.below HT.out HB.out | (with_reducible refine TabG.alloc ?_ _) | (with_reducible refine TabG.drewN ?_ _) | (with_reducible refine TabG.drew ?_) | exact TabG.below HT.out (by repeat (first | (with_reducible first | exact HB.out | apply below_alloc | apply pw_below_drewN | apply below_drew1) | exact HB.out)))); rintro e w' ⟨rfl, ⟨nd, rfl⟩⟩; refine ⟨_, rfl, ?_⟩))
              go_roundg k1
              case measure => have := HK1.out; omega
              case rel => exact ⟨(x5_1), (wrap64 (x14_1 + 1)), (by first | rfl | (simp; done) | (simp [*]; done)), H', ⟨by have := HK1.out; omega⟩, ⟨by (with_reducible repeat (first | apply Kd.R_alloc | apply Kd.R_drewN | apply Kd.R_drew)); exact HO_5.out⟩, ⟨by (with_reducible repeat (first | apply Kd.R_alloc | apply Kd.R_drewN | apply Kd.R_drew)); exact HO_12.out⟩, ⟨by repeat (first | (with_reducible first | exact HB.out | apply below_alloc | apply pw_below_drewN | apply below_drew1) | exact HB.out)⟩⟩
          · rw [if_neg c8] at H
            exact absurd H (by simp)
        · rw [if_neg c7] at H
          exact absurd H (by simp)
      · rw [if_neg c6] at H
        have c6b0 : decide (x14_1 < (t165.length : Int)) = false := decide_eq_false c6
        clear c6
        obtain rfl := Option.some.inj H
        go_wp2
        go_ret
        exact ⟨_, by first | rfl | (simp [errW_none, errW_some] <;> rfl) | (simp [*, errW_none, errW_some] <;> rfl), by (with_reducible repeat (first | apply Kd.R_alloc | apply Kd.R_drewN | apply Kd.R_drew)); exact Kd.R_mono HO_5.out (fun _ hk => trivial), by repeat (first | (with_reducible first | exact HB.out | apply below_alloc | apply pw_below_drewN | apply below_drew1) | exact HB.out)⟩
section
theorem infoRow : (Tryd.prog.info? 71).map (fun i => (i.zero, i.size, i.bytes)) = some (some (.agg #[(.int .i64 0), (.slice none 0 0)]), 2, 32) := by kernel_rfl
def copL (n i : Nat) : List Nat := if n = 2 then [2 - 2 * i] else if n = 4 then [2 * i + 2 - 4 * (i % 2), 5 - i / 2 * 4] else if n = 8 then [2 * i + 2 - 4 * (i % 2), i / 4 * 8 + 5 - i / 2 % 2 * 4, 11 - i / 4 * 8] else []
def copOk (n i : Nat) : Bool := decide (index_Copath.f 10 (2 * (i : Int)) (n : Int) = some ((copL n i).map (fun (x : Nat) => (x : Int)))) && decide ((copL n i).length = (dirL n i).length) && ((copL n i).all fun x => decide (x < 2 * n - 1)) && ((dirL n i).all fun x => decide (x < 2 * n - 1))
theorem cop_all : ([1, 2, 4, 8].all fun n => (List.range n).all fun i => copOk n i) = true := by decide +kernel
theorem cop_at (n i : Nat) (hn : n = 1 ∨ n = 2 ∨ n = 4 ∨ n = 8) (hi : i < n) : index_Copath.f 10 (2 * (i : Int)) (n : Int) = some ((copL n i).map (fun (x : Nat) => (x : Int))) ∧ (copL n i).length = (dirL n i).length ∧ (∀ x ∈ copL n i, x < 2 * n - 1) ∧ (∀ x ∈ dirL n i, x < 2 * n - 1) := by
  have h1 := List.all_eq_true.1 cop_all n (by rcases hn with rfl | rfl | rfl | rfl <;> simp)
  have h2 := List.all_eq_true.1 h1 i (List.mem_range.2 hi)
  unfold copOk at h2
  simp only [Bool.and_eq_true, decide_eq_true_eq, List.all_eq_true] at h2
  exact ⟨h2.1.1.1, h2.1.1.2, h2.1.2, h2.2⟩
theorem lvs_at (t : List S45) (h : lvsN t ≠ 0) : (lvsN t = 1 ∨ lvsN t = 2 ∨ lvsN t = 4 ∨ lvsN t = 8) ∧ t.length = 2 * lvsN t - 1 := by
  unfold lvsN at h ⊢
  by_cases a1 : t.length = 1
  · rw [if_pos a1]; omega
  · by_cases a2 : t.length = 3
    · rw [if_neg a1, if_pos a2]; omega
    · by_cases a3 : t.length = 7
      · rw [if_neg a1, if_neg a2, if_pos a3]; omega
      · by_cases a4 : t.length = 15
        · rw [if_neg a1, if_neg a2, if_neg a3, if_pos a4]; omega
        · exact absurd (by rw [if_neg a1, if_neg a2, if_neg a3, if_neg a4]) h
def rowsTo (t : List S45) (n i : Nat) : Nat → List S71
  | 0 => []
  | k + 1 => if resT t ((copL n i).getD k 0) = [] then rowsTo t n i k else rowsTo t n i k ++ [⟨(((dirL n i).getD k 0 : Nat) : Int), resT t ((copL n i).getD k 0)⟩]
def rowsT (t : List S45) (i : Nat) : List S71 := rowsTo t (lvsN t) i (dirL (lvsN t) i).length
theorem rowsTo_len (t : List S45) (n i : Nat) : ∀ k, (rowsTo t n i k).length ≤ k := by
  intro k
  induction k with
  | zero => simp [rowsTo]
  | succ k ih =>
    simp only [rowsTo]
    split
    · omega
    · simp; omega
def tree_rows.f (t : List S45) (leaf : Int) : Option (List S71 × Int) :=
  if t.all (fun n => wfI n.f1) = true then some (if okB t = true then (if 0 ≤ leaf ∧ leaf < lvsN t ∧ (nodeN t (2 * leaf).toNat).f0 ≠ 0 then (rowsT t leaf.toNat, 0) else ([], 7)) else ([], 1)) else none
theorem direct_any (n i : Nat) (hn : n = 1 ∨ n = 2 ∨ n = 4 ∨ n = 8) (hi : i < n) (w : World) (HT : Aside0 (TabG w)) : Calls Tryd.prog 31 #[.int .i64 (2 * (i : Int)), .int .i64 (n : Int)] w fun e w' => ∃ A c, e = .returned (.slice A (dirL n i).length c) ∧ (dirL n i).length ≤ c ∧ Kd.C (Kd.int .i64) w' A (dirL n i).length ((dirL n i).map (fun (x : Nat) => (x : Int))) ∧ Below w.heap.size w w' := by
  rcases hn with rfl | hn
  · obtain rfl : i = 0 := by omega
    refine (direct_one w HT).mono ?_
    rintro e w' ⟨rfl, hb⟩
    exact ⟨none, 0, rfl, Nat.le_refl _, Kd.C_nil _ _, hb⟩
  · exact direct_more n i hn hi w HT
set_option maxRecDepth 100000 in
set_option maxHeartbeats 800000 in
theorem rows_go (A0 : Option Addr) (c0 : Nat) (t : List S45) (i : Nat) (w : World) (HR : Aside0 (Kd.C k45 w A0 t.length t)) (HC : Aside0 (t.length ≤ c0)) (HT : Aside0 (TabG w)) (CK : Aside0 (tree_Check.f t = some 0)) (hok : okB t = true) (hi : i < lvsN t) (hp : (nodeN t (2 * i)).f0 ≠ 0) :
    Calls Tryd.prog 35 #[.agg #[.slice A0 t.length c0], .int .i64 i] w fun e w' => ∃ v0_ : Value, e = .returned (.tuple #[v0_, .int .i64 0]) ∧ Kd.S k71 71 w' w.heap.size (fun _ => True) v0_ (rowsT t i) ∧ Below w.heap.size w w' := by
  have hu24 := Tryd.underlying24
  have hu45 := Tryd.underlying45
  have hne : t ≠ [] := by intro e; subst e; simp [lvsN] at hi
  have hv := (ok_parts hok hne).1
  obtain ⟨hn, htl⟩ := lvs_at t hv
  have LV := Aside0.mk (leaves_at t (by omega))
  have HOK := Aside0.mk hok
  obtain ⟨q1, q2, q3, q4⟩ := cop_at (lvsN t) i hn hi
  have COP := Aside0.mk q1
  have CLN := Aside0.mk q2
  have CBD := Aside0.mk q3
  have DBD := Aside0.mk q4
  clear q1 q2 q3 q4 hok hne hv
  generalize hN : lvsN t = n at *
  have hi8 : (i : Int) ≤ 7 := by omega
  have hin : (i : Int) < n := by omega
  have hn8 : (n : Int) ≤ 8 := by omega
  obtain ⟨ad, A3, c3, e3, x0, x1, x2, x3, hl3, hi3⟩ := at_T45 HR.out ((2 * i : Nat) : Int) (by omega) (by omega)
  rw [rd_at] at x0 x1 x2 x3 hl3 hi3
  rw [Int.toNat_natCast] at x0 x1 x2 x3
  cases e3
  clear x1 x2 x3 hl3 hi3
  generalize hND : (nodeN t (2 * i)).f0 = p0 at *
  have hx24 : 2 * i < t.length := by omega
  have hpe : (p0 == 0) = false := by simp [hp]
  have h2i : (2 * (i : Int)).toNat = 2 * i := by omega
  have hge : decide ((n : Int) ≤ (i : Int)) = false := decide_eq_false (by omega)
  have HTL := Aside0.mk htl
  have HND := Aside0.mk hND
  have HNN := Aside0.mk hN
  have HN1 := Aside0.mk hn
  have HP := Aside0.mk hp
  clear htl hND hN hn hp
  go_enter Tryd.func35, Tryd.ntmps35
  go_wp2_with (go_at_call 10; refine (tree_Check.calls (some ad) c0 t _ _ (Kd.C_alloc HR.out _) HC.out (HT.out.alloc _) CK.out).mono ?_; rintro e w1 ⟨rfl, hb⟩; have bx := box_cell hb 0 _ rfl; have HB1 := Aside0.mk (below_box hb); have BK1 := Aside0.mk (blk_below (heap_alloc_new w _) hb); clear hb)
  refine (tree_leaves.calls (some ad) c0 t _ _ (Kd.C_below HR.out HB1.out) HC.out LV.out).mono ?_
  rintro e w2 ⟨rfl, hb⟩
  have HB2 := Aside0.mk (HB1.out.trans (hb.mono HB1.out.size))
  have BK2 := Aside0.mk (blk_below BK1.out hb)
  clear hb HB1 BK1 bx
  have bx : w2.cell? ⟨w.heap.size, 0, none⟩ = some _ := blk_cell BK2.out 0
  have y0 := (HB2.out.cell (World.block_lt_of_cell? _ _ x0)).trans x0
  dsimp only
  go_wp2_with (first | (go_at_call 26; refine (tree_leaves.calls (some ad) c0 t _ _ (Kd.C_below HR.out HB2.out) HC.out LV.out).mono ?_; rintro e w3 ⟨rfl, hb⟩; have HB3 := Aside0.mk (HB2.out.trans (hb.mono HB2.out.size)); have BK3 := Aside0.mk (blk_below BK2.out hb); clear hb))
  refine (index_Copath.calls 10 _ _ _ _ (TabG.below HT.out HB3.out) COP.out).mono ?_
  rintro e w4 ⟨v4, rfl, ho, hb⟩
  obtain ⟨Ac, cc, rfl, hlc, hCc⟩ := Kd.R_reads ho
  simp only [List.length_map, CLN.out] at hlc hCc ⊢
  have HB4 := Aside0.mk (HB3.out.trans (hb.mono HB3.out.size))
  have BK4 := Aside0.mk (blk_below BK3.out hb)
  have HCC := Aside0.mk hCc
  have HLC := Aside0.mk hlc
  clear hb ho hCc hlc HB2 BK2 HB3 BK3 bx y0
  have bx : w4.cell? ⟨w.heap.size, 0, none⟩ = some _ := blk_cell BK4.out 0
  go_wp2_with (first | (go_at_call 26; refine (tree_leaves.calls (some ad) c0 t _ _ (Kd.C_below HR.out HB4.out) HC.out LV.out).mono ?_; rintro e w5 ⟨rfl, hb⟩; have HCC5 := Aside0.mk (Kd.C_below HCC.out hb); have HB5 := Aside0.mk (HB4.out.trans (hb.mono HB4.out.size)); have BK5 := Aside0.mk (blk_below BK4.out hb); clear hb) | (go_at_call 31; refine (direct_any n i HN1.out (by omega) _ ⟨TabG.below HT.out HB5.out⟩).mono ?_; rintro e w6 ⟨Ad, cd, rfl, hld, hCd, hb⟩; have HCC6 := Aside0.mk (Kd.C_below HCC5.out hb); have HCD6 := Aside0.mk hCd; have HLD := Aside0.mk hld; have HB6 := Aside0.mk (HB5.out.trans (hb.mono HB5.out.size)); have BK6 := Aside0.mk (blk_below BK5.out hb); clear hb hCd hld))
  have hm3 := dirL_len n i
  generalize hm : (dirL n i).length = m at *
  have HM := Aside0.mk hm
  clear hm
  have hm8 : (m : Int) ≤ 3 := by omega
  clear bx x0
  go_loopw [6, 43] (fun v6 v43 wr => ∃ k : Nat, k ≤ m ∧ v43 = .int .i64 k ∧ Aside0 (Kd.S k71 71 wr w6.heap.size (fun _ => True) v6 (rowsTo t n i k)) ∧ Aside0 (Below w6.heap.size w6 wr))
    (fun _ v43 _ => m - (intOf v43).toNat)
  case atStart => exact ⟨0, Nat.zero_le _, rfl, ⟨Kd.S_nil _ _ _ _ _⟩, ⟨Below.refl _ _⟩⟩
  case round =>
    obtain ⟨k, hk, rfl, HS, HW⟩ := hrel
    by_cases hlt : k < m
    · obtain ⟨ae, ee, hxe⟩ := Kd.at_int HCD6.out (k : Int) (by omega) (by omega)
      obtain ⟨ac, ec, hxc⟩ := Kd.at_int HCC6.out (k : Int) (by omega) (by omega)
      cases ee
      cases ec
      rw [Int.toNat_natCast] at hxe hxc
      replace hxe := (HW.out.cell (World.block_lt_of_cell? _ _ hxe)).trans hxe
      replace hxc := (HW.out.cell (World.block_lt_of_cell? _ _ hxc)).trans hxc
      have bx : wr.cell? ⟨w.heap.size, 0, none⟩ = some _ := blk_cell (blk_below BK6.out HW.out) 0
      have hgc : rd ((copL n i).map (fun (x : Nat) => (x : Int))) (k : Int) = (((copL n i).getD k 0 : Nat) : Int) := by unfold rd; rw [Int.toNat_natCast]; simp [List.getD_eq_getElem?_getD, List.getElem?_map]; cases (copL n i)[k]? <;> rfl
      have hgd : rd ((dirL n i).map (fun (x : Nat) => (x : Int))) (k : Int) = (((dirL n i).getD k 0 : Nat) : Int) := by unfold rd; rw [Int.toNat_natCast]; simp [List.getD_eq_getElem?_getD, List.getElem?_map]; cases (dirL n i)[k]? <;> rfl
      rw [hgc] at hxc
      rw [hgd] at hxe
      clear hgc hgd
      have hcb : (copL n i).getD k 0 < t.length := by
        have h1 : k < (copL n i).length := by rw [CLN.out]; exact hlt
        have := CBD.out ((copL n i).getD k 0) (by rw [List.getD_eq_getElem?_getD, List.getElem?_eq_getElem h1]; exact List.getElem_mem _)
        rw [HTL.out]
        exact this
      have HCB := Aside0.mk hcb
      clear hcb
      generalize hcx : (copL n i).getD k 0 = cx at *
      have HCX := Aside0.mk hcx
      generalize hdx : (dirL n i).getD k 0 = dx at *
      have HDX := Aside0.mk hdx
      clear hcx hdx
      go_wp2
      have HBR := Aside0.mk (HB6.out.trans (HW.out.mono HB6.out.size))
      go_region_held3 (fun w' => w'.cell? ⟨w.heap.size, 0, none⟩ = some (.slice (some ad) t.length c0) ∧ w'.cell? (ac.add k) = some (.int .i64 (cx : Int))) (go_keep) ((go_at_call 37; refine (tree_resolution.any (some ad) c0 t wr.drew wr.drew cx (.slice none 0 0) [] ⟨Kd.C_drew (Kd.C_below HR.out HBR.out)⟩ HC HOK.out ⟨(TabG.below HT.out HBR.out).drew⟩ HCB.out (Kd.R_nil _ _ _ _ _) (Below.refl _ _) (by simp)).mono ?_; rintro e w7 ⟨v7, rfl, ho, hb, -, -⟩; have b7 := pw_cell_below hb (show wr.drew.cell? _ = _ from bx); have c7 := pw_cell_below hb (show wr.drew.cell? _ = _ from hxc); rw [List.nil_append] at ho; obtain ⟨A7, c7n, rfl⟩ := Kd.R_slice ho; have HO7 := Aside0.mk ho; have HB7 := Aside0.mk hb; clear ho hb))
      have HBd : Below wr.heap.size wr w7 := (below_drew1 (Below.refl _ _)).trans HB7.out
      have HW7 := Aside0.mk (HW.out.trans (HBd.mono HW.out.size))
      have HS7 : Aside0 (Kd.S k71 71 w7 w6.heap.size (fun k => True ∧ ¬ wr.heap.size ≤ k) u6 (rowsTo t n i k)) := ⟨Kd.S_below (Kd.S_mono (Kd.S_bound HS.out) (fun k hk => ⟨trivial, by have := hk.2.2.1; omega⟩)) HBd⟩
      have HL6 : Aside0 (∀ k, wr.heap.size ≤ k → some k ≠ u6.ownBlock) := ⟨fun k hk e => absurd (Kd.S_lt HS.out k e.symm) (by omega)⟩
      have HR7 : Aside0 (Kd.R (Kd.int .i64) 3 w7 w6.heap.size (fun k => wr.heap.size ≤ k) (.slice A7 (resT t cx).length c7n) (resT t cx)) := ⟨Kd.R_lower (Kd.R_mono (Kd.R_bound HO7.out) (fun k hk => hk.2.1)) HW.out.size⟩
      have hlr := rowsTo_len t n i k
      have HRT : Aside0 (rowsTo t n i (k + 1) = if resT t cx = [] then rowsTo t n i k else rowsTo t n i k ++ [⟨(dx : Int), resT t cx⟩]) := ⟨by rw [← HCX.out, ← HDX.out]; rfl⟩
      clear HBd HO7 HB7 b7 c7 HS HW bx hxc hxe HCB HCX HDX HBR
      generalize resT t cx = rs at *
      by_cases hrs : rs = []
      · subst hrs
        rw [if_pos rfl] at HRT
        go_wp2
        go_roundw
        case rel => exact ⟨k + 1, by omega, by go_num, ⟨by rw [HRT.out]; exact Kd.S_mono HS7.out (fun _ _ => trivial)⟩, HW7⟩
        case measure => simp [intOf]; omega
      · rw [if_neg hrs] at HRT
        have hrl : (0 : Int) < rs.length := by have := List.length_pos_iff.2 hrs; omega
        have hrd : decide ((0 : Int) < rs.length) = true := decide_eq_true hrl
        go_wp2_with (at_builtin; (refine Kd.S_append k71 (w0 := w6) w6.heap.size rfl (.tmp 57) (.tmp 61) 67 71 (.agg #[.int .i64 0, .slice none 0 0]) 32 rfl Tryd.underlying67 infoRow rfl (by decide) (by omega) u6 (rowsTo t n i k) (⟨(dx : Int), rs⟩ : S71) [.int .i64 (dx : Int), .slice A7 rs.length c7n] (fun _ => True) (fun k => wr.heap.size ≤ k) rfl rfl ?aP ?aK (fun _ _ => trivial) ?aO ?aB ?aS ?aL ?_); (case aP => exact k71_mkM _ _ _ (⟨(dx : Int), rs⟩ : S71) HR7.out); (case aK => exact fun k hk => ⟨trivial, HL6.out k hk⟩); (case aO => exact HS7.out); (case aB => exact HW7.out); (case aS => exact HW7.out.size); (case aL => omega); intro v8 w8 ho hb hg hat; have HO8 := Aside0.mk ho; have HB8 := Aside0.mk hb; clear ho hb hg hat)
        go_roundw
        case rel => exact ⟨k + 1, by omega, by go_num, ⟨by rw [HRT.out]; exact HO8.out⟩, HB8⟩
        case measure => simp [intOf]; omega
    · obtain rfl : k = m := by omega
      go_wp2
      refine bodyPost_ret (v := .tuple #[u6, .int .i64 0]) (by simp [results, Tryd.results35, go_sem]) rfl ⟨u6, rfl, ?_, HB6.out.trans (HW.out.mono HB6.out.size)⟩
      unfold rowsT
      rw [HNN.out, HM.out]
      exact Kd.S_lower HS.out HB6.out.size
set_option maxRecDepth 100000 in
set_option maxHeartbeats 4000000 in
theorem tree_rows.calls (A0_0 : Option Addr) (c0_0 : Nat) (l0_0 : List (S45)) (a1 : Int) (r1 : List (S71)) (r2 : Int) (w : World) (hr0_0 : Kd.C k45 w A0_0 l0_0.length l0_0) (hc0_0 : l0_0.length ≤ c0_0) (hT : TabG w) (h : tree_rows.f l0_0 a1 = some (r1, r2)) :
    Calls Tryd.prog 35 #[.agg #[.slice A0_0 l0_0.length c0_0], .int .i64 a1] w fun e w' => ∃ v0_ : Value, e = .returned (.tuple #[v0_, .int .i64 r2]) ∧ Kd.S k71 71 w' w.heap.size (fun _ => True) v0_ r1 ∧ Below w.heap.size w w' := by
  have hu24 := Tryd.underlying24
  have hu45 := Tryd.underlying45
  have HR := Aside0.mk hr0_0
  have HC := Aside0.mk hc0_0
  have HT := Aside0.mk hT
  clear hr0_0 hc0_0 hT
  unfold tree_rows.f at h
  by_cases hw : l0_0.all (fun n => wfI n.f1) = true
  · rw [if_pos hw] at h
    have hck : tree_Check.f l0_0 = some (if okB l0_0 = true then 0 else 1) := if_pos hw
    have h := Option.some.inj h
    by_cases hok : okB l0_0 = true
    · rw [if_pos hok] at h hck
      have CK := Aside0.mk hck
      clear hck hw
      by_cases hx0 : 0 ≤ a1
      · obtain ⟨i, rfl⟩ : ∃ i : Nat, a1 = (i : Int) := ⟨a1.toNat, by omega⟩
        have h15 : l0_0.length ≤ 15 := by
          by_cases he : l0_0 = []
          · subst he; simp
          · have := lvs_at l0_0 (ok_parts hok he).1; omega
        have LV := Aside0.mk (leaves_at l0_0 (by omega))
        by_cases hx1 : i < lvsN l0_0
        · by_cases hp : (nodeN l0_0 (2 * i)).f0 = 0
          · rw [if_neg (by rintro ⟨_, _, h3⟩; exact h3 (by rw [show (2 * (i : Int)).toNat = 2 * i by omega]; exact hp))] at h
            injection h with h1 h2
            subst h1 h2
            have hne : l0_0 ≠ [] := by intro e; subst e; simp [lvsN] at hx1
            obtain ⟨hn, htl⟩ := lvs_at l0_0 (ok_parts hok hne).1
            clear hok
            generalize lvsN l0_0 = n at *
            have hi8 : (i : Int) ≤ 7 := by omega
            have hn8 : (n : Int) ≤ 8 := by omega
            obtain ⟨ad, A3, c3, e3, x0, x1, x2, x3, hl3, hi3⟩ := at_T45 HR.out ((2 * i : Nat) : Int) (by omega) (by omega)
            rw [rd_at] at x0 x1 x2 x3 hl3 hi3
            rw [Int.toNat_natCast] at x0 x1 x2 x3
            cases e3
            clear x1 x2 x3 hl3 hi3
            rw [hp] at x0
            have hx24 : 2 * i < l0_0.length := by omega
            have h2i : (2 * (i : Int)).toNat = 2 * i := by omega
            have hge : decide ((n : Int) ≤ (i : Int)) = false := decide_eq_false (by omega)
            clear hn htl hp h15
            go_enter Tryd.func35, Tryd.ntmps35
            go_wp2_with (go_at_call 10; refine (tree_Check.calls (some ad) c0_0 l0_0 _ _ (Kd.C_alloc HR.out _) HC.out (HT.out.alloc _) CK.out).mono ?_; rintro e w1 ⟨rfl, hb⟩; have bx := box_cell hb 0 _ rfl; have HB1 := Aside0.mk (below_box hb); have BK1 := Aside0.mk (blk_below (heap_alloc_new w _) hb); clear hb)
            refine (tree_leaves.calls (some ad) c0_0 l0_0 _ _ (Kd.C_below HR.out HB1.out) HC.out LV.out).mono ?_
            rintro e w2 ⟨rfl, hb⟩
            have HB2 := Aside0.mk (HB1.out.trans (hb.mono HB1.out.size))
            have BK2 := Aside0.mk (blk_below BK1.out hb)
            clear hb HB1 BK1 bx
            have bx : w2.cell? ⟨w.heap.size, 0, none⟩ = some _ := blk_cell BK2.out 0
            have y0 := (HB2.out.cell (World.block_lt_of_cell? _ _ x0)).trans x0
            dsimp only
            go_wp2
            refine bodyPost_ret (v := .tuple #[.slice none 0 0, .int .i64 7]) (by simp [results, Tryd.results35, go_sem]) rfl ⟨_, rfl, Kd.S_nil _ _ _ _ _, HB2.out⟩
          · rw [if_pos (by refine ⟨hx0, by omega, ?_⟩; rw [show (2 * (i : Int)).toNat = 2 * i by omega]; exact hp)] at h
            injection h with h1 h2
            subst h1 h2
            rw [Int.toNat_natCast]
            exact rows_go A0_0 c0_0 l0_0 i w HR HC HT CK hok hx1 hp
        · rw [if_neg (by rintro ⟨_, h2, _⟩; omega)] at h
          injection h with h1 h2
          subst h1 h2
          have hge : decide ((lvsN l0_0 : Int) ≤ (i : Int)) = true := decide_eq_true (by omega)
          have hni : lvsN l0_0 ≤ i := by omega
          clear hok hx1 h15
          generalize lvsN l0_0 = n at *
          go_enter Tryd.func35, Tryd.ntmps35
          go_wp2_with (first | (go_at_call 10; refine (tree_Check.calls A0_0 c0_0 l0_0 _ _ (Kd.C_alloc HR.out _) HC.out (HT.out.alloc _) CK.out).mono ?_; rintro e w1 ⟨rfl, hb⟩; have bx := box_cell hb 0 _ rfl; have HB1 := Aside0.mk (below_box hb); have BK1 := Aside0.mk (blk_below (heap_alloc_new w _) hb); clear hb))
          refine (tree_leaves.calls A0_0 c0_0 l0_0 _ _ (Kd.C_below HR.out HB1.out) HC.out LV.out).mono ?_
          rintro e w2 ⟨rfl, hb⟩
          have HB2 := Aside0.mk (HB1.out.trans (hb.mono HB1.out.size))
          clear hb HB1 BK1 bx
          dsimp only
          go_wp2
          refine bodyPost_ret (v := .tuple #[.slice none 0 0, .int .i64 7]) (by simp [results, Tryd.results35, go_sem]) rfl ⟨_, rfl, Kd.S_nil _ _ _ _ _, HB2.out⟩
      · rw [if_neg (by rintro ⟨h1, _⟩; omega)] at h
        injection h with h1 h2
        subst h1 h2
        have d0 : decide (a1 < 0) = true := decide_eq_true (by omega)
        clear hok
        go_enter Tryd.func35, Tryd.ntmps35
        go_wp2_with (go_at_call 10; refine (tree_Check.calls A0_0 c0_0 l0_0 _ _ (Kd.C_alloc HR.out _) HC.out (HT.out.alloc _) CK.out).mono ?_; rintro e w1 ⟨rfl, hb⟩; have bx := box_cell hb 0 _ rfl; have HB := Aside0.mk (below_box hb); clear hb)
        refine bodyPost_ret (v := .tuple #[.slice none 0 0, .int .i64 7]) (by simp [results, Tryd.results35, go_sem]) rfl ⟨_, rfl, Kd.S_nil _ _ _ _ _, HB.out⟩
    · rw [if_neg hok] at h hck
      injection h with h1 h2
      subst h1 h2
      have CK := Aside0.mk hck
      clear hck hw
      go_enter Tryd.func35, Tryd.ntmps35
      go_wp2_with (go_at_call 10; refine (tree_Check.calls A0_0 c0_0 l0_0 _ _ (Kd.C_alloc HR.out _) HC.out (HT.out.alloc _) CK.out).mono ?_; rintro e w1 ⟨rfl, hb⟩; have bx := box_cell hb 0 _ rfl; have HB := Aside0.mk (below_box hb); clear hb)
      refine bodyPost_ret (v := .tuple #[.slice none 0 0, .int .i64 1]) (by simp [results, Tryd.results35, go_sem]) rfl ⟨_, rfl, Kd.S_nil _ _ _ _ _, HB.out⟩
  · rw [if_neg hw] at h; exact absurd h (by simp)
end
end Go.Proofs.YtfgalpfiggnkpaaDoor.PT
