/- What treeFresh_card uses of the printed words and contracts. -/
import Derived.Test.YtfgalpfiggnkpaaDoorFrPTx0
import Derived.Test.YtfgalpfiggnkpaaDoorFrPTx1
namespace Go.Proofs.YtfgalpfiggnkpaaDoor.PT
open Go.RowKit Go.Proofs.YtfgalpfiggnkpaaDoorW.PrintWords Go.Proofs.YtfgalpfiggnkpaaDoorW.PrintLast Go.Proofs.YtfgalpfiggnkpaaDoorW.PrintMore
attribute [local go_sem] max2_int min2_int max_two min_two max_three min_three max_four min_four   -- for this text's walks alone
set_option linter.unusedVariables false
set_option linter.unusedSimpArgs false
def slices_Reverse_int_int.l0 : Nat → List Int → Int → Int → Option (List Int)
  | 0, _, _, _ => none
  | k + 1, x0, x2, x3 => if x2 < x3 then (if 0 ≤ x3 then (if x3 < (x0.length : Int) then (if 0 ≤ x2 then (if x2 < (x0.length : Int) then (slices_Reverse_int_int.l0 k ((x0.set (x2 : Int).toNat (rd x0 x3)).set (x3 : Int).toNat (rd x0 x2)) (wrap64 (x2 + 1)) (wrap64 (x3 - 1))) else (none)) else (none)) else (none)) else (none)) else (some x0)
theorem slices_Reverse_int_int.mono_l : ∀ k, (∀ y0 y1 y2, LeO (slices_Reverse_int_int.l0 k y0 y1 y2) (slices_Reverse_int_int.l0 (k + 1) y0 y1 y2))
  | 0 => fun _ _ _ r h => by simp [slices_Reverse_int_int.l0] at h
  | k + 1 => by
    have ih0 := slices_Reverse_int_int.mono_l k
    · intro y0 y1 y2
      unfold slices_Reverse_int_int.l0
      repeat' first
      | (with_reducible exact ih0 _ _ _)
      | (with_reducible exact LeO.refl _)
      | (with_reducible exact LeO.none _)
      | (with_reducible refine LeO.ite ?_ ?_)
      | (with_reducible refine LeO.bind ?_ (fun _ => ?_))
      | exact ih0 _ _ _
      | exact LeO.none _
      | refine LeO.ite ?_ ?_
      | refine LeO.bind ?_ (fun _ => ?_)
section
def insL (xs : List Int) (i : Nat) (x : Int) : List Int := xs.take i ++ x :: xs.drop i
theorem insL_len (xs : List Int) (i : Nat) (x : Int) : (insL xs i x).length = xs.length + 1 := by
  unfold insL
  rw [List.length_append, List.length_cons, List.length_take, List.length_drop]
  omega
theorem encs_one (xs : List Int) : ∀ v ∈ encs (Value.int .i64) xs, v.oneCell' = true := by
  intro v hv
  obtain ⟨x, _, rfl⟩ := List.mem_map.1 hv
  rfl
def InsPost (W : World) (base : Nat) (ok : Nat → Prop) (v : Value) (r : List Int) (e : Ending) (w' : World) : Prop :=
  ∃ v', e = .returned v' ∧ Kd.R (Kd.int .i64) 3 w' base (fun q => ok q ∨ W.heap.size ≤ q) v' r ∧ W.grownBy w' v.ownBlock ∧ (v'.ownBlock = v.ownBlock ∨ ∃ b, v'.ownBlock = some b ∧ W.heap.size ≤ b)
theorem cells_of_take {W : World} {g : Nat} {cur : Array Value} {cs : List Value} (hh : W.heap[g]? = some (.cells cur 3 (0, 0))) (ht : cur.toList.take cs.length = cs) : ∀ j v, cs[j]? = some v → W.cell? ⟨g, 0 + j, none⟩ = some v := by
  intro j v hj
  have hjl := (List.getElem?_eq_some_iff.1 hj).1
  rw [blk_cell hh, ← Array.getElem?_toList, Nat.zero_add]
  rw [← ht, List.getElem?_take, if_pos hjl] at hj
  exact hj
theorem R_block {W : World} {base g cap : Nat} {ok : Nat → Prop} {cur : Array Value} {r : List Int} (hb : base ≤ g) (hok : ok g) (hh : W.heap[g]? = some (.cells cur 3 (0, 0))) (hl : r.length ≤ cap) (hm : cap ≤ maxLen) (hs : cur.size = cap) (ht : cur.toList.take r.length = encs (Value.int .i64) r) :
    Kd.R (Kd.int .i64) 3 W base ok (.slice (some ⟨g, 0, none⟩) r.length cap) r := by
  refine Kd.R_of_own (enc := Value.int .i64) ⟨by simp [encs], .inr ⟨g, cap, cur, rfl, hb, hh, hl, hm, by rw [hs]; simp, by simpa using ht⟩⟩ (fun k hk => ?_)
  have : g = k := by simpa [Value.ownBlock] using hk
  subst this
  exact hok
theorem zero_size (n : Nat) : (Builtin.zeroCells (Value.int .i64 0).cells n).size = n := by simp [Builtin.zeroCells, Value.cells]
theorem grow_new (W : World) (o : Obj) (r : Option Nat) : W.grownBy (W.drew.alloc o) r := by
  have h := grow_alloc (w := W.drew) o r
  exact ⟨h.os, h.tape, h.output, h.size, h.block⟩
theorem grow_cells {W w1 : World} {r : Option Nat} {g : Nat} (h : W.grownBy w1 r) (hg : W.heap.size ≤ g ∨ some g = r) (o : Nat) (vs : List Value) : W.grownBy (w1.setCells g o vs) r := by
  obtain ⟨s1, s2, s3, s4⟩ := setCells_same g vs o w1
  refine ⟨s1.trans h.os, s2.trans h.tape, s3.trans h.output, by rw [s4]; exact h.size, fun k hk hne => ?_⟩
  rw [setCells_far vs o k (fun e => ?_)]
  · exact h.block k hk hne
  · subst e
    rcases hg with hg | hg
    · omega
    · exact hne hg
theorem ins_room {α : Type} (cu es c1 c2 : List α) (x : α) (i n : Nat) (hn : es.length = n) (hi : i ≤ n) (ht : cu.take n = es) (hc : n + 1 ≤ cu.length) (h1 : c1 = cu.take (i + 1) ++ es.drop i ++ cu.drop (i + 1 + (es.drop i).length)) (h2 : c2 = c1.take i ++ [x] ++ c1.drop (i + 1)) : c2.take (n + 1) = es.take i ++ x :: es.drop i := by
  have a1 : c1.take i = es.take i := by
    rw [h1, List.append_assoc, List.take_append_of_le_length (by rw [List.length_take]; omega), List.take_take, ← ht, List.take_take]
    congr 1
    omega
  have a2 : c1.drop (i + 1) = es.drop i ++ cu.drop (i + 1 + (es.drop i).length) := by
    rw [h1, List.append_assoc, List.drop_append_of_le_length (by rw [List.length_take]; omega), List.drop_of_length_le (by rw [List.length_take]; omega), List.nil_append]
  rw [h2, a1, a2, List.append_assoc, List.take_append, List.take_of_length_le (by rw [List.length_take]; omega), List.length_take, Nat.min_eq_left (by omega)]
  congr 1
  rw [show n + 1 - i = (n - i) + 1 by omega, List.singleton_append, List.take_succ_cons, List.take_append_of_le_length (by rw [List.length_drop]; omega), List.take_of_length_le (by rw [List.length_drop]; omega)]
theorem ins_new {α : Type} (cu es c1 c2 : List α) (x : α) (i n : Nat) (hn : es.length = n) (hi : i ≤ n) (ht : cu.take i = es.take i) (hc : n + 1 ≤ cu.length) (h1 : c1 = cu.take i ++ [x] ++ cu.drop (i + 1)) (h2 : c2 = c1.take (i + 1) ++ es.drop i ++ c1.drop (i + 1 + (es.drop i).length)) : c2.take (n + 1) = es.take i ++ x :: es.drop i := by
  have a1 : c1.take (i + 1) = es.take i ++ [x] := by
    rw [h1, List.take_append_of_le_length (by simp; omega), List.take_of_length_le (by simp; omega), ht]
  rw [h2, a1, List.take_append_of_le_length (by simp; omega), List.take_of_length_le (by simp; omega), List.append_assoc]
  rfl
theorem ins_at (v : Value) (xs : List Int) (i : Nat) (x : Int) (vb base : Nat) (ok : Nat → Prop) (W : World) (HR : Kd.R (Kd.int .i64) 3 W base ok v xs) (hi : i ≤ xs.length) (hl : xs.length ≤ 1000) (hvb : W.heap[vb]? = some (.cells #[.int .i64 x] 3 (0, 0))) (hvn : some vb ≠ v.ownBlock) (hbW : base ≤ W.heap.size) :
    Calls Tryd.prog 33 #[v, .int .i64 i, .slice (some ⟨vb, 0, none⟩) 1 1] W (InsPost W base ok v (insL xs i x)) := by
  have hvs : ∀ j u, [Value.int .i64 x][j]? = some u → W.cell? ⟨vb, 0 + j, none⟩ = some u := by
    intro j u hj
    rw [blk_cell hvb, ← Array.getElem?_toList, Nat.zero_add]
    exact hj
  have h1v : ∀ u ∈ [Value.int .i64 x], u.oneCell' = true := by intro u hu; rw [List.mem_singleton.1 hu]; rfl
  have hrl := insL_len xs i x
  have hmx : ∀ n, n ≤ 1001 → n ≤ maxLen := by intro n hn; unfold maxLen; omega
  have hel : (encs (Value.int .i64) xs).length = xs.length := encs_length _
  have hend : i = xs.length → encs (Value.int .i64) (insL xs i x) = encs (Value.int .i64) xs ++ [.int .i64 x] := by
    intro h
    subst h
    unfold insL encs
    rw [List.take_length, List.drop_length, List.map_append]
    rfl
  have hgrow : ∀ (base' : Option Addr) (n c : Nat), i = xs.length → n = xs.length → c < n + 1 → n ≤ c → c ≤ 1000 → (base' = none → n = 0) → (∀ a, base' = some a → ∀ j u, (encs (Value.int .i64) xs)[j]? = some u → W.cell? (a.add j) = some u) → v = .slice base' n c →
      Calls Tryd.prog 33 #[.slice base' n c, .int .i64 i, .slice (some ⟨vb, 0, none⟩) 1 1] W (InsPost W base ok v (insL xs i x)) := by
    intro base' n c hie hn hc hnc hc1 h0 hcs hv
    subst hn
    have h := Any2.slices_Insert_int_end_grow Tryd.lays21 base' xs.length c vb 0 1 1 (encs (Value.int .i64) xs) [.int .i64 x] W (by omega) hnc hc (by omega) hel rfl h0 hcs hvs h1v
    rw [← hie] at h ⊢
    refine Calls.mono h ?_
    rintro e w' ⟨rfl, rfl⟩
    have hge := grownCap_ge W (i + 1) c 3
    have hle := grownCap_le_maxLen W (i + 1) c 3 (hmx _ (by omega))
    refine ⟨_, rfl, ?_, grow_new W _ _, .inr ⟨_, rfl, Nat.le_refl _⟩⟩
    have hR := R_block (W := W.drew.alloc (.cells ((encs (Value.int .i64) xs ++ [Value.int .i64 x]).toArray ++ Builtin.zeroCells (Value.int .i64 0).cells (grownCap W (i + 1) c 3 - (i + 1))) 3)) (base := base) (g := W.heap.size) (cap := grownCap W (i + 1) c 3) (ok := fun q => ok q ∨ W.heap.size ≤ q) (r := insL xs i x) hbW (.inr (Nat.le_refl _)) (heap_alloc_new W.drew _) (by rw [hrl]; omega) hle (by rw [Array.size_append, zero_size, List.size_toArray, List.length_append, hel]; simp; omega) (by rw [hrl, hend hie, Array.toList_append, List.toList_toArray, List.take_append_of_le_length (by simp [hel]), List.take_of_length_le (by simp [hel])])
    rw [hrl, ← hie] at hR
    exact hR
  obtain ⟨h1, h2 | ⟨g, cap, cur, rfl, hb, hh, hlc, hm, hs, ht⟩⟩ := Kd.own_of_R HR
  · obtain ⟨rfl, h3⟩ := h2
    exact hgrow none 0 0 (by omega) (by omega) (by omega) (by omega) (by omega) (fun _ => rfl) (fun a e => by cases e) rfl
  · have hcs : cur.size = cap := by simpa using hs
    have htk : cur.toList.take (encs (Value.int .i64) xs).length = encs (Value.int .i64) xs := by rw [hel]; simpa using ht
    have hcl := cells_of_take hh htk
    have hvg : vb ≠ g := fun e => hvn (by rw [e]; rfl)
    have hokg : ok g := HR.1 g rfl
    have hmI : cap ≤ 9223372036854775807 := by simpa [maxLen] using hm
    have hsp : ∀ j, j < cap → (W.cell? ⟨g, 0 + j, none⟩).isSome = true := by
      intro j hj
      rw [blk_cell hh, Array.getElem?_eq_getElem (by omega)]
      rfl
    have hfz : ∀ j, j < cap → W.frozen? ⟨g, 0 + j, none⟩ = false := fun j _ => blk_frozen hh _
    by_cases hie : i = xs.length
    · by_cases hroom : xs.length + 1 ≤ cap
      · have h := Any2.slices_Insert_int_end_room Tryd.lays21 g 0 xs.length cap vb 0 1 1 [.int .i64 x] W (by omega) hroom hmI rfl (fun j hj => by have := hsp (xs.length + j) (by omega); rwa [← Nat.add_assoc] at this) (fun j hj => by have := hfz (xs.length + j) (by omega); rwa [← Nat.add_assoc] at this) hvs h1v
        rw [← hie] at h hroom ⊢
        refine Calls.mono h ?_
        rintro e w' ⟨rfl, rfl⟩
        obtain ⟨cur', h3, h4, h5⟩ := setCells_row [Value.int .i64 x] (0 + i) W cur hh (by simp; omega)
        refine ⟨_, rfl, ?_, grow_cells (World.grownBy.refl _ _) (.inr rfl) _ _, .inl rfl⟩
        have hR := R_block (base := base) (cap := cap) (ok := fun q => ok q ∨ W.heap.size ≤ q) (r := insL xs i x) hb (.inl hokg) h3 (by rw [hrl]; omega) hm (by omega) (by
          rw [hrl, hend hie, h5, ← hie, Nat.zero_add, ← htk, hel, ← hie]
          have hcl : cur.toList.length = cap := by simpa using hcs
          rw [List.take_append_of_le_length (by simp; omega), List.take_of_length_le (by simp; omega)])
        rw [hrl, ← hie] at hR
        exact hR
      · exact hgrow _ xs.length cap hie rfl (by omega) hlc (by omega) (fun e => by cases e) (fun a e j u hj => by injection e with e; subst e; rw [add_at]; exact hcl j u hj) rfl
    · have hin : i < xs.length := by omega
      have henc : encs (Value.int .i64) (insL xs i x) = (encs (Value.int .i64) xs).take i ++ Value.int .i64 x :: (encs (Value.int .i64) xs).drop i := by unfold insL encs; rw [List.map_append, List.map_take, List.map_cons, List.map_drop]
      have htt : cur.toList.take xs.length = encs (Value.int .i64) xs := by rw [← hel]; exact htk
      have hcul : cur.toList.length = cap := by simpa using hcs
      have hdl : ((encs (Value.int .i64) xs).drop i).length = xs.length - i := by rw [List.length_drop, hel]
      by_cases hroom : xs.length + 1 ≤ cap
      · have h := Any2.slices_Insert_int_shift Tryd.lays21 g 0 xs.length cap i vb 0 1 1 (encs (Value.int .i64) xs) [.int .i64 x] W hin (by omega) hroom hmI hvg hel rfl hcl (fun j hj => hsp j (by omega)) (fun j hj => hfz j (by omega)) hvs (encs_one xs) h1v 3 3 1 cap (by simp [World.shape?, hvb]) (by simp [World.shape?, hh, hcs]) (by omega) (blk_frozen hvb _) (blk_frozen hvb _)
        refine Calls.mono h ?_
        rintro e w' ⟨rfl, rfl⟩
        obtain ⟨c1, h3, h4, h5⟩ := setCells_row ((encs (Value.int .i64) xs).drop i) (0 + (i + 1)) W.drew cur hh (by omega)
        obtain ⟨c2, h6, h7, h8⟩ := setCells_row [Value.int .i64 x] (0 + i) _ c1 h3 (by simp; omega)
        refine ⟨_, rfl, ?_, grow_cells (grow_cells (grow_drew 1 _) (.inr rfl) _ _) (.inr rfl) _ _, .inl rfl⟩
        have hR := R_block (base := base) (cap := cap) (ok := fun q => ok q ∨ W.heap.size ≤ q) (r := insL xs i x) hb (.inl hokg) h6 (by rw [hrl]; omega) hm (by omega) (by
          rw [hrl, henc]
          rw [Nat.zero_add] at h5 h8
          exact ins_room cur.toList _ c1.toList c2.toList _ i xs.length hel (by omega) htt (by omega) h5 h8)
        rw [hrl] at hR
        exact hR
      · have h := Any2.slices_Insert_int_grow Tryd.lays21 g 0 xs.length cap i vb 0 1 1 (encs (Value.int .i64) xs) [.int .i64 x] W hin (by omega) hlc (by omega) (by omega) hel rfl hcl hvs (encs_one xs) h1v
        refine Calls.mono h ?_
        rintro e w' ⟨rfl, rfl⟩
        have hge := grownCap_ge W (xs.length + 1) cap 3
        have hle := grownCap_le_maxLen W (xs.length + 1) cap 3 (hmx _ (by omega))
        have hnew := heap_alloc_new W (.cells (((encs (Value.int .i64) xs).take i).toArray ++ Builtin.zeroCells (Value.int .i64 0).cells (xs.length + 1 - i) ++ Builtin.zeroCells (Value.int .i64 0).cells (grownCap W (xs.length + 1) cap 3 - (xs.length + 1))) 3)
        obtain ⟨cu, hcu⟩ : ∃ cu, cu = ((encs (Value.int .i64) xs).take i).toArray ++ Builtin.zeroCells (Value.int .i64 0).cells (xs.length + 1 - i) ++ Builtin.zeroCells (Value.int .i64 0).cells (grownCap W (xs.length + 1) cap 3 - (xs.length + 1)) := ⟨_, rfl⟩
        have hcuS : cu.size = grownCap W (xs.length + 1) cap 3 := by
          rw [hcu, Array.size_append, Array.size_append, zero_size, zero_size, List.size_toArray, List.length_take, hel, Nat.min_eq_left (by omega)]
          omega
        have hcuT : cu.toList.take i = (encs (Value.int .i64) xs).take i := by
          rw [hcu, Array.toList_append, Array.toList_append, List.toList_toArray, List.append_assoc, List.take_append_of_le_length (by rw [List.length_take, hel]; omega), List.take_take, Nat.min_self]
        rw [← hcu] at hnew
        obtain ⟨c1, h3, h4, h5⟩ := setCells_row [Value.int .i64 x] i (W.alloc (.cells cu 3)).drew cu hnew (by simp; omega)
        obtain ⟨c2, h6, h7, h8⟩ := setCells_row ((encs (Value.int .i64) xs).drop i) (i + 1) ((W.alloc (.cells cu 3)).drew.setCells W.heap.size i [Value.int .i64 x]).drew c1 h3 (by omega)
        show InsPost W base ok _ _ _ ((((W.alloc (.cells (((encs (Value.int .i64) xs).take i).toArray ++ Builtin.zeroCells (Value.int .i64 0).cells (xs.length + 1 - i) ++ Builtin.zeroCells (Value.int .i64 0).cells (grownCap W (xs.length + 1) cap 3 - (xs.length + 1))) 3)).drew.setCells W.heap.size i [.int .i64 x]).drew).setCells W.heap.size (i + 1) ((encs (Value.int .i64) xs).drop i))
        rw [← hcu]
        have hg0 : W.grownBy (W.alloc (.cells cu 3)).drew (some g) := grow_then (grow_alloc _ _) (grow_drew 1 (some g)) (.inl rfl)
        refine ⟨_, rfl, ?_, grow_cells (grow_then (grow_cells hg0 (.inl (Nat.le_refl _)) _ _) (grow_drew 1 (some g)) (.inl rfl)) (.inl (Nat.le_refl _)) _ _, .inr ⟨_, rfl, Nat.le_refl _⟩⟩
        have hR := R_block (base := base) (cap := grownCap W (xs.length + 1) cap 3) (ok := fun q => ok q ∨ W.heap.size ≤ q) (r := insL xs i x) hbW (.inr (Nat.le_refl _)) h6 (by rw [hrl]; omega) hle (by omega) (by
          rw [hrl, henc]
          exact ins_new cu.toList _ c1.toList c2.toList _ i xs.length hel (by omega) hcuT (by simp; omega) h5 h8)
        rw [hrl] at hR
        exact hR
end
def tree_taken.l0 : Nat → List (S45) → Int → Option (Bool)
  | 0, _, _ => none
  | k + 1, x0, x3 => if x3 < (x0.length : Int) then (if 0 ≤ x3 then ((tree_blank.f ((rd_T45 x0 x3).f0) ((rd_T45 x0 x3).f1) ((rd_T45 x0 x3).f2) ((rd_T45 x0 x3).f3)).bind fun t159 => (if t159 = true then (tree_taken.l0 k x0 (wrap64 (x3 + 2))) else (some true))) else (none)) else (some false)
def tree_taken.f (k : Nat) (l0 : List (S45)) : Option (Bool) := tree_taken.l0 k l0 0
theorem tree_taken.mono_l : ∀ k, (∀ y0 y1, LeO (tree_taken.l0 k y0 y1) (tree_taken.l0 (k + 1) y0 y1))
  | 0 => fun _ _ r h => by simp [tree_taken.l0] at h
  | k + 1 => by
    have ih0 := tree_taken.mono_l k
    · intro y0 y1
      unfold tree_taken.l0
      repeat' first
      | (with_reducible exact ih0 _ _)
      | (with_reducible exact LeO.refl _)
      | (with_reducible exact LeO.none _)
      | (with_reducible refine LeO.ite ?_ ?_)
      | (with_reducible refine LeO.bind ?_ (fun _ => ?_))
      | exact ih0 _ _
      | exact LeO.none _
      | refine LeO.ite ?_ ?_
      | refine LeO.bind ?_ (fun _ => ?_)
theorem tree_taken.mono : ∀ a0 k, LeO (tree_taken.f k a0) (tree_taken.f (k + 1) a0) := by
  intro a0 k
  have ih0 := tree_taken.mono_l k
  unfold tree_taken.f
  repeat' first
      | (with_reducible exact ih0 _ _)
      | (with_reducible exact LeO.refl _)
      | (with_reducible exact LeO.none _)
      | (with_reducible refine LeO.ite ?_ ?_)
      | (with_reducible refine LeO.bind ?_ (fun _ => ?_))
      | exact ih0 _ _
      | exact LeO.none _
      | refine LeO.ite ?_ ?_
      | refine LeO.bind ?_ (fun _ => ?_)
set_option maxHeartbeats 8000000 in
set_option maxRecDepth 100000 in
theorem tree_taken.calls (k : Nat) (A0 : Option Addr) (c0 : Nat) (l0 : List (S45)) (r : Bool) (w : World) (hr0 : Kd.C k45 w A0 l0.length l0) (hc0 : l0.length ≤ c0) (h : tree_taken.f k l0 = some r) :
    Calls Tryd.prog 34 #[.slice A0 l0.length c0] w fun e w' => e = .returned (.bool r) ∧ Below w.heap.size w w' := by
  have hu45 := Tryd.underlying45
  have HR0 := Aside0.mk hr0
  have HC0 := Aside0.mk hc0
  clear hr0 hc0
  have HB := Aside0.mk (Below.refl w.heap.size w)
  have H : (tree_taken.l0 k l0 0) = some r := h
  clear h
  have H' := Aside0.mk H
  clear H
  go_enter Tryd.func34, Tryd.ntmps34
  go_wp2
  go_loopg [3] k (fun kq v3 w' => ∃ (x3_1 : Int), v3 = .int .i64 x3_1 ∧ Aside0 (tree_taken.l0 kq l0 x3_1 = some r) ∧ Aside0 (kq ≤ k) ∧ Aside0 (Below w.heap.size w w'))
  case atStart => exact ⟨(0), (by first | rfl | (simp; done) | (simp [*]; done)), H', ⟨Nat.le_refl _⟩, ⟨by repeat (first | (with_reducible first | exact HB.out | apply below_alloc | apply pw_below_drewN | apply below_drew1) | exact HB.out)⟩⟩
  case round =>
    clear H'
    obtain ⟨x3_1, rfl, HA, HK1, HB⟩ := hrel
    cases gk with
    | zero => exact absurd HA.out (by simp [tree_taken.l0])
    | succ k1 =>
      have H := HA.out
      clear HA
      simp only [tree_taken.l0] at H
      by_cases c2 : x3_1 < (l0.length : Int)
      · rw [if_pos c2] at H
        have c2b0 : decide (x3_1 < (l0.length : Int)) = true := decide_eq_true c2
        clear c2
        by_cases c3 : 0 ≤ x3_1
        · rw [if_pos c3] at H
          have c3b0 : decide (0 ≤ x3_1) = true := decide_eq_true c3
          clear c3
          replace H := Option.bind_eq_some_iff.mp H
          obtain ⟨t159, A40, H⟩ := H
          replace H : (if t159 = true then (tree_taken.l0 k1 l0 (wrap64 (x3_1 + 2))) else (some true)) = some r := H
          have A4 := Aside0.mk A40
          clear A40
          by_cases c5 : t159 = true
          · subst c5
            have H1 : (tree_taken.l0 k1 l0 (wrap64 (x3_1 + 2))) = some r := by rw [if_pos rfl] at H; exact H
            clear H
            have H := H1
            clear H1
            have H' := Aside0.mk H
            clear H
            have p158 : 0 ≤ (x3_1 : Int) := of_decide_eq_true (by first | (with_reducible assumption) | assumption)
            have q158 : x3_1 < (l0.length : Int) := of_decide_eq_true (by first | (with_reducible assumption) | assumption)
            obtain ⟨ad158, A158_3, c158_3, e158, hx158_0, hx158_1, hx158_2, hx158_3, hl158_3, hi158_3⟩ := at_T45 HR0.out x3_1 p158 q158
            cases e158
            replace hx158_0 := (HB.out.cell (World.block_lt_of_cell? w _ hx158_0)).trans hx158_0
            replace hx158_1 := (HB.out.cell (World.block_lt_of_cell? w _ hx158_1)).trans hx158_1
            replace hx158_2 := (HB.out.cell (World.block_lt_of_cell? w _ hx158_2)).trans hx158_2
            replace hx158_3 := (HB.out.cell (World.block_lt_of_cell? w _ hx158_3)).trans hx158_3
            have HR158_3 := Aside0.mk hi158_3
            have HC158_3 := Aside0.mk hl158_3
            clear hi158_3 hl158_3
            replace p158 := eq_true p158
            replace q158 := eq_true q158
            go_wp2_with (first | ((with_reducible refine gate_callee (f := 28) rfl ?_); refine goesL_ (some 14) rfl rfl Tryd.func28 (by kernel_rfl) rfl #[.agg #[.int .i64 ((rd_T45 l0 x3_1).f0), .int .i64 ((rd_T45 l0 x3_1).f1), .int .i64 ((rd_T45 l0 x3_1).f2), .slice A158_3 ((rd_T45 l0 x3_1).f3).length c158_3]] rfl (by (try simp only [List.map_toArray, List.map_cons, List.map_nil]); first | done | rfl | (simp only [List.length_drop, List.length_take]; rfl)) ?_; (with_reducible refine (tree_blank.calls ((rd_T45 l0 x3_1).f0) ((rd_T45 l0 x3_1).f1) ((rd_T45 l0 x3_1).f2) _ _ ((rd_T45 l0 x3_1).f3) true _ ?side1 ?side2 A4.out).mono ?_); (case side1 => repeat (first | exact (Kd.C_below HR158_3.out HB.out) | (with_reducible refine Kd.C_alloc ?_ _) | (with_reducible refine Kd.C_drewN ?_ _) | (with_reducible refine Kd.C_drew ?_))); (case side2 => exact HC158_3.out); rintro e w6 ⟨rfl, hb⟩; refine ⟨_, rfl, ?_⟩; have n0_ := Aside0.mk (below_step (by repeat (first | (with_reducible first | exact HB.out | apply below_alloc | apply pw_below_drewN | apply below_drew1) | exact HB.out)) hb); clear HB; have HB := n0_; clear n0_; (try clear hb); (try clear hb2); (try clear hk); (try clear hi)))
            go_roundg k1
            case measure => have := HK1.out; omega
            case rel => exact ⟨(wrap64 (x3_1 + 2)), (by first | rfl | (simp; done) | (simp [*]; done)), H', ⟨by have := HK1.out; omega⟩, ⟨by repeat (first | (with_reducible first | exact HB.out | apply below_alloc | apply pw_below_drewN | apply below_drew1) | exact HB.out)⟩⟩
          · replace c5 := Bool.eq_false_iff.mpr c5
            subst c5
            have H1 : (some true) = some r := by rw [if_neg (show ¬ (false = true) by decide)] at H; exact H
            clear H
            have H := H1
            clear H1
            obtain rfl := Option.some.inj H
            have p158 : 0 ≤ (x3_1 : Int) := of_decide_eq_true (by first | (with_reducible assumption) | assumption)
            have q158 : x3_1 < (l0.length : Int) := of_decide_eq_true (by first | (with_reducible assumption) | assumption)
            obtain ⟨ad158, A158_3, c158_3, e158, hx158_0, hx158_1, hx158_2, hx158_3, hl158_3, hi158_3⟩ := at_T45 HR0.out x3_1 p158 q158
            cases e158
            replace hx158_0 := (HB.out.cell (World.block_lt_of_cell? w _ hx158_0)).trans hx158_0
            replace hx158_1 := (HB.out.cell (World.block_lt_of_cell? w _ hx158_1)).trans hx158_1
            replace hx158_2 := (HB.out.cell (World.block_lt_of_cell? w _ hx158_2)).trans hx158_2
            replace hx158_3 := (HB.out.cell (World.block_lt_of_cell? w _ hx158_3)).trans hx158_3
            have HR158_3 := Aside0.mk hi158_3
            have HC158_3 := Aside0.mk hl158_3
            clear hi158_3 hl158_3
            replace p158 := eq_true p158
            replace q158 := eq_true q158
            go_wp2_with (first | ((with_reducible refine gate_callee (f := 28) rfl ?_); refine goesL_ (some 14) rfl rfl Tryd.func28 (by kernel_rfl) rfl #[.agg #[.int .i64 ((rd_T45 l0 x3_1).f0), .int .i64 ((rd_T45 l0 x3_1).f1), .int .i64 ((rd_T45 l0 x3_1).f2), .slice A158_3 ((rd_T45 l0 x3_1).f3).length c158_3]] rfl (by (try simp only [List.map_toArray, List.map_cons, List.map_nil]); first | done | rfl | (simp only [List.length_drop, List.length_take]; rfl)) ?_; (with_reducible refine (tree_blank.calls ((rd_T45 l0 x3_1).f0) ((rd_T45 l0 x3_1).f1) ((rd_T45 l0 x3_1).f2) _ _ ((rd_T45 l0 x3_1).f3) false _ ?side1 ?side2 A4.out).mono ?_); (case side1 => repeat (first | exact (Kd.C_below HR158_3.out HB.out) | (with_reducible refine Kd.C_alloc ?_ _) | (with_reducible refine Kd.C_drewN ?_ _) | (with_reducible refine Kd.C_drew ?_))); (case side2 => exact HC158_3.out); rintro e w7 ⟨rfl, hb⟩; refine ⟨_, rfl, ?_⟩; have n0_ := Aside0.mk (below_step (by repeat (first | (with_reducible first | exact HB.out | apply below_alloc | apply pw_below_drewN | apply below_drew1) | exact HB.out)) hb); clear HB; have HB := n0_; clear n0_; (try clear hb); (try clear hb2); (try clear hk); (try clear hi)))
            go_ret
            exact ⟨by first | rfl | (simp [errW_none, errW_some] <;> rfl) | (simp [*, errW_none, errW_some] <;> rfl), by repeat (first | (with_reducible first | exact HB.out | apply below_alloc | apply pw_below_drewN | apply below_drew1) | exact HB.out)⟩
        · rw [if_neg c3] at H
          exact absurd H (by simp)
      · rw [if_neg c2] at H
        have c2b0 : decide (x3_1 < (l0.length : Int)) = false := decide_eq_false c2
        clear c2
        obtain rfl := Option.some.inj H
        go_wp2
        go_ret
        exact ⟨by first | rfl | (simp [errW_none, errW_some] <;> rfl) | (simp [*, errW_none, errW_some] <;> rfl), by repeat (first | (with_reducible first | exact HB.out | apply below_alloc | apply pw_below_drewN | apply below_drew1) | exact HB.out)⟩
def phratrylaw01_SameNumbers.l0 : Nat → List Int → List Int → Int → Int → Option (Bool)
  | 0, _, _, _, _ => none
  | k + 1, x0, x1, x12, x13 => if x13 < x12 then (if 0 ≤ x13 then (if x13 < (x0.length : Int) then (if x13 < (x1.length : Int) then (if (rd x0 x13) = (rd x1 x13) then (phratrylaw01_SameNumbers.l0 k x0 x1 x12 (wrap64 (x13 + 1))) else (some false)) else (none)) else (none)) else (none)) else (some true)
def phratrylaw01_SameNumbers.f (k : Nat) (l0 : List Int) (l1 : List Int) : Option (Bool) := if (l0.length : Int) = (l1.length : Int) then (phratrylaw01_SameNumbers.l0 k l0 l1 (l0.length : Int) 0) else (some false)
theorem phratrylaw01_SameNumbers.mono_l : ∀ k, (∀ y0 y1 y2 y3, LeO (phratrylaw01_SameNumbers.l0 k y0 y1 y2 y3) (phratrylaw01_SameNumbers.l0 (k + 1) y0 y1 y2 y3))
  | 0 => fun _ _ _ _ r h => by simp [phratrylaw01_SameNumbers.l0] at h
  | k + 1 => by
    have ih0 := phratrylaw01_SameNumbers.mono_l k
    · intro y0 y1 y2 y3
      unfold phratrylaw01_SameNumbers.l0
      repeat' first
      | (with_reducible exact ih0 _ _ _ _)
      | (with_reducible exact LeO.refl _)
      | (with_reducible exact LeO.none _)
      | (with_reducible refine LeO.ite ?_ ?_)
      | (with_reducible refine LeO.bind ?_ (fun _ => ?_))
      | exact ih0 _ _ _ _
      | exact LeO.none _
      | refine LeO.ite ?_ ?_
      | refine LeO.bind ?_ (fun _ => ?_)
theorem phratrylaw01_SameNumbers.mono : ∀ a0 a1 k, LeO (phratrylaw01_SameNumbers.f k a0 a1) (phratrylaw01_SameNumbers.f (k + 1) a0 a1) := by
  intro a0 a1 k
  have ih0 := phratrylaw01_SameNumbers.mono_l k
  unfold phratrylaw01_SameNumbers.f
  repeat' first
      | (with_reducible exact ih0 _ _ _ _)
      | (with_reducible exact LeO.refl _)
      | (with_reducible exact LeO.none _)
      | (with_reducible refine LeO.ite ?_ ?_)
      | (with_reducible refine LeO.bind ?_ (fun _ => ?_))
      | exact ih0 _ _ _ _
      | exact LeO.none _
      | refine LeO.ite ?_ ?_
      | refine LeO.bind ?_ (fun _ => ?_)
set_option maxHeartbeats 8000000 in
set_option maxRecDepth 100000 in
theorem phratrylaw01_SameNumbers.calls (k : Nat) (A0 : Option Addr) (c0 : Nat) (l0 : List Int) (A1 : Option Addr) (c1 : Nat) (l1 : List Int) (r : Bool) (w : World) (hr0 : Kd.C (Kd.int .i64) w A0 l0.length l0) (hc0 : l0.length ≤ c0) (hr1 : Kd.C (Kd.int .i64) w A1 l1.length l1) (hc1 : l1.length ≤ c1) (h : phratrylaw01_SameNumbers.f k l0 l1 = some r) :
    Calls Tryd.prog 16 #[.slice A0 l0.length c0, .slice A1 l1.length c1] w fun e w' => e = .returned (.bool r) ∧ Drawn0 w w' := by
  have HR0 := Aside0.mk hr0
  have HC0 := Aside0.mk hc0
  clear hr0 hc0
  have HR1 := Aside0.mk hr1
  have HC1 := Aside0.mk hc1
  clear hr1 hc1
  have H : (if (l0.length : Int) = (l1.length : Int) then (phratrylaw01_SameNumbers.l0 k l0 l1 (l0.length : Int) 0) else (some false)) = some r := h
  clear h
  by_cases c3 : (l0.length : Int) = (l1.length : Int)
  · rw [if_pos c3] at H
    have c3b0 : ((l0.length : Int) == (l1.length : Int)) = true := beq_iff_eq.mpr c3
    have c3b1 : ((l0.length : Int) != (l1.length : Int)) = false := bne_eq_false_iff_eq.mpr c3
    have c3b2 : (l0.length == l1.length) = true := by first | simpa using c3 | (simp at c3 ⊢; omega)
    clear c3
    have H' := Aside0.mk H
    clear H
    go_enter Tryd.func16, Tryd.ntmps16
    go_wp2
    repeat (go_quiet (fail); try go_wp2)
    go_loopg [13] k (fun kq v13 w' => ∃ (x13_1 : Int), v13 = .int .i64 x13_1 ∧ Aside0 (phratrylaw01_SameNumbers.l0 kq l0 l1 (l0.length : Int) x13_1 = some r) ∧ Aside0 (kq ≤ k) ∧ Drawn0 w w')
    case atStart => exact ⟨(0), (by first | rfl | (simp; done) | (simp [*]; done)), H', ⟨Nat.le_refl _⟩, by repeat (first | exact Drawn0.refl _ | apply Drawn0.step)⟩
    case round =>
      clear H'
      try clear c1
      try clear p2
      try clear c3
      try clear c3b0
      try clear c3b1
      try clear c3b2
      obtain ⟨x13_1, rfl, HA, HK1, ⟨m1, rfl⟩⟩ := hrel
      cases gk with
      | zero => exact absurd HA.out (by simp [phratrylaw01_SameNumbers.l0])
      | succ k1 =>
        have H := HA.out
        clear HA
        simp only [phratrylaw01_SameNumbers.l0] at H
        by_cases c4 : x13_1 < (l0.length : Int)
        · rw [if_pos c4] at H
          have c4b0 : decide (x13_1 < (l0.length : Int)) = true := decide_eq_true c4
          clear c4
          by_cases c5 : 0 ≤ x13_1
          · rw [if_pos c5] at H
            have c5b0 : decide (0 ≤ x13_1) = true := decide_eq_true c5
            clear c5
            by_cases c6 : x13_1 < (l0.length : Int)
            · rw [if_pos c6] at H
              have c6b0 : decide (x13_1 < (l0.length : Int)) = true := decide_eq_true c6
              clear c6
              by_cases c7 : x13_1 < (l1.length : Int)
              · rw [if_pos c7] at H
                have c7b0 : decide (x13_1 < (l1.length : Int)) = true := decide_eq_true c7
                clear c7
                by_cases c8 : (rd l0 x13_1) = (rd l1 x13_1)
                · rw [if_pos c8] at H
                  have c8b0 : ((rd l0 x13_1) == (rd l1 x13_1)) = true := beq_iff_eq.mpr c8
                  have c8b1 : ((rd l0 x13_1) != (rd l1 x13_1)) = false := bne_eq_false_iff_eq.mpr c8
                  clear c8
                  have H' := Aside0.mk H
                  clear H
                  have p160 : 0 ≤ (x13_1 : Int) := of_decide_eq_true (by first | (with_reducible assumption) | assumption)
                  have q160 : x13_1 < (l0.length : Int) := of_decide_eq_true (by first | (with_reducible assumption) | assumption)
                  obtain ⟨ad160, e160, hx160_0⟩ := Kd.at_int HR0.out x13_1 p160 q160
                  cases e160
                  replace p160 := eq_true p160
                  replace q160 := eq_true q160
                  have p161 : 0 ≤ (x13_1 : Int) := of_decide_eq_true (by first | (with_reducible assumption) | assumption)
                  have q161 : x13_1 < (l1.length : Int) := of_decide_eq_true (by first | (with_reducible assumption) | assumption)
                  obtain ⟨ad161, e161, hx161_0⟩ := Kd.at_int HR1.out x13_1 p161 q161
                  cases e161
                  replace p161 := eq_true p161
                  replace q161 := eq_true q161
                  go_wp2
                  repeat (go_quiet (fail); try go_wp2)
                  go_roundg k1
                  case measure => have := HK1.out; omega
                  case rel => exact ⟨(wrap64 (x13_1 + 1)), (by first | rfl | (simp; done) | (simp [*]; done)), H', ⟨by have := HK1.out; omega⟩, by repeat (first | exact Drawn0.refl _ | apply Drawn0.step)⟩
                · rw [if_neg c8] at H
                  have c8b0 : ((rd l0 x13_1) == (rd l1 x13_1)) = false := beq_eq_false_iff_ne.mpr c8
                  have c8b1 : ((rd l0 x13_1) != (rd l1 x13_1)) = true := bne_iff_ne.mpr c8
                  obtain rfl := Option.some.inj H
                  have p160 : 0 ≤ (x13_1 : Int) := of_decide_eq_true (by first | (with_reducible assumption) | assumption)
                  have q160 : x13_1 < (l0.length : Int) := of_decide_eq_true (by first | (with_reducible assumption) | assumption)
                  obtain ⟨ad160, e160, hx160_0⟩ := Kd.at_int HR0.out x13_1 p160 q160
                  cases e160
                  replace p160 := eq_true p160
                  replace q160 := eq_true q160
                  have p161 : 0 ≤ (x13_1 : Int) := of_decide_eq_true (by first | (with_reducible assumption) | assumption)
                  have q161 : x13_1 < (l1.length : Int) := of_decide_eq_true (by first | (with_reducible assumption) | assumption)
                  obtain ⟨ad161, e161, hx161_0⟩ := Kd.at_int HR1.out x13_1 p161 q161
                  cases e161
                  replace p161 := eq_true p161
                  replace q161 := eq_true q161
                  go_wp2
                  repeat (go_quiet (fail); try go_wp2)
                  go_ret
                  exact ⟨by first | rfl | (simp; done) | (simp [*]; done), by repeat (first | exact Drawn0.refl _ | apply Drawn0.step)⟩
              · rw [if_neg c7] at H
                exact absurd H (by simp)
            · rw [if_neg c6] at H
              exact absurd H (by simp)
          · rw [if_neg c5] at H
            exact absurd H (by simp)
        · rw [if_neg c4] at H
          have c4b0 : decide (x13_1 < (l0.length : Int)) = false := decide_eq_false c4
          clear c4
          obtain rfl := Option.some.inj H
          go_wp2
          repeat (go_quiet (fail); try go_wp2)
          go_ret
          exact ⟨by first | rfl | (simp; done) | (simp [*]; done), by repeat (first | exact Drawn0.refl _ | apply Drawn0.step)⟩
  · rw [if_neg c3] at H
    have c3b0 : ((l0.length : Int) == (l1.length : Int)) = false := beq_eq_false_iff_ne.mpr c3
    have c3b1 : ((l0.length : Int) != (l1.length : Int)) = true := bne_iff_ne.mpr c3
    have c3b2 : (l0.length == l1.length) = false := by first | simpa using c3 | (simp at c3 ⊢; omega)
    obtain rfl := Option.some.inj H
    go_enter Tryd.func16, Tryd.ntmps16
    go_wp2
    repeat (go_quiet (fail); try go_wp2)
    go_ret
    exact ⟨by first | rfl | (simp; done) | (simp [*]; done), by repeat (first | exact Drawn0.refl _ | apply Drawn0.step)⟩
def index_Left.f (a0 : Int) : Option (Int × Bool) := (index_Level.f a0).bind fun t162 => (if t162 < 1 then (some (0, false)) else (if 0 ≤ (wrap64 (t162 - 1)) then (some (Go.bits .andNot .i64 a0 (shl .i64 1 (wrap64 (t162 - 1))), true)) else (none)))
set_option maxHeartbeats 8000000 in
set_option maxRecDepth 100000 in
theorem index_Left.calls (a0 : Int) (r1 : Int) (r2 : Bool) (w : World) (hT : TabG w) (h : index_Left.f a0 = some (r1, r2)) :
    Calls Tryd.prog 51 #[.int .i64 a0] w fun e w' => e = .returned (.tuple #[.int .i64 r1, .bool r2]) ∧ Drawn0 w w' := by
  have HT := Aside0.mk hT
  clear hT
  have H : ((index_Level.f a0).bind fun t162 => (if t162 < 1 then (some (0, false)) else (if 0 ≤ (wrap64 (t162 - 1)) then (some (Go.bits .andNot .i64 a0 (shl .i64 1 (wrap64 (t162 - 1))), true)) else (none)))) = some (r1, r2) := h
  clear h
  replace H := Option.bind_eq_some_iff.mp H
  obtain ⟨t162, A20, H⟩ := H
  replace H : (if t162 < 1 then (some (0, false)) else (if 0 ≤ (wrap64 (t162 - 1)) then (some (Go.bits .andNot .i64 a0 (shl .i64 1 (wrap64 (t162 - 1))), true)) else (none))) = some (r1, r2) := H
  have A2 := Aside0.mk A20
  clear A20
  by_cases c3 : t162 < 1
  · rw [if_pos c3] at H
    have c3b0 : decide (t162 < 1) = true := decide_eq_true c3
    clear c3
    simp only [Option.some.injEq, Prod.mk.injEq] at H
    obtain ⟨rfl, rfl⟩ := H
    go_enter Tryd.func51, Tryd.ntmps51
    go_wp2_with (first | ((with_reducible refine gate_callee (f := 57) rfl ?_); refine goesL_ (some 6) rfl rfl Tryd.func57 (by kernel_rfl) rfl #[.int .i64 a0] rfl (by (try simp only [List.map_toArray, List.map_cons, List.map_nil]); first | done | rfl | (simp only [List.length_drop, List.length_take]; rfl)) ?_; (with_reducible refine (index_Level.calls a0 t162 _ ?side1 A2.out).mono ?_); (case side1 => repeat (first | exact HT.out | exact TabG.below HT.out HB.out | (with_reducible refine TabG.alloc ?_ _) | (with_reducible refine TabG.drewN ?_ _) | (with_reducible refine TabG.drew ?_) | exact TabG.below HT.out (by repeat (first | (with_reducible first | exact HB.out | apply below_alloc | apply pw_below_drewN | apply below_drew1) | exact HB.out)))); rintro e w' ⟨rfl, ⟨nd, rfl⟩⟩; refine ⟨_, rfl, ?_⟩))
    go_ret2
    exact ⟨by first | rfl | (simp; done) | (simp [*]; done), by repeat (first | exact Drawn0.refl _ | apply Drawn0.step)⟩
  · rw [if_neg c3] at H
    have c3b0 : decide (t162 < 1) = false := decide_eq_false c3
    clear c3
    obtain ⟨ji4, hji4⟩ : ∃ j_ : Int, (wrap64 (t162 - 1)) = j_ := ⟨_, rfl⟩
    replace H : (if 0 ≤ (ji4) then (some (Go.bits .andNot .i64 a0 (shl .i64 1 (ji4)), true)) else (none)) = some (r1, r2) := by first | (rw [hji4] at H; exact H) | (simp only [hji4] at H ⊢; exact H)
    (try rw [hji4] at A2)
    have hji4w : (IntKind.i64.wrap (t162 - 1)) = ji4 := (i64_w _).trans hji4
    by_cases c5 : 0 ≤ (ji4)
    · rw [if_pos c5] at H
      have c5b0 := eq_true c5
      have c5b1 : decide (0 ≤ (ji4)) = true := decide_eq_true c5
      clear c5
      obtain ⟨ji6, hji6⟩ : ∃ j_ : Int, (shl .i64 1 (ji4)) = j_ := ⟨_, rfl⟩
      replace H : (some (Go.bits .andNot .i64 a0 (ji6), true)) = some (r1, r2) := by first | (rw [hji6] at H; exact H) | (simp only [hji6] at H ⊢; exact H)
      (try rw [hji6] at A2)
      have hji6_ : (IntKind.i64.wrap (1 * 2 ^ min (ji4).toNat 64)) = ji6 := hji6
      have hji6z : (ji4) ≤ 64 → (IntKind.i64.wrap (1 * 2 ^ (ji4).toNat)) = ji6 := shl_small hji6
      have hji6u : (IntKind.i64.wrap (2 ^ min (ji4).toNat 64)) = ji6 := by have h_ := hji6_; rw [Int.one_mul] at h_; exact h_
      have hji6v : (ji4) ≤ 64 → (IntKind.i64.wrap (2 ^ (ji4).toNat)) = ji6 := fun hle_ => by have h_ := hji6z hle_; rw [Int.one_mul] at h_; exact h_
      have hji6y : (wrap64 (1 * 2 ^ min (ji4).toNat 64)) = ji6 := (i64_w _).symm.trans hji6_
      have hji6x : (ji4) ≤ 64 → (wrap64 (1 * 2 ^ (ji4).toNat)) = ji6 := fun h_ => (i64_w _).symm.trans (hji6z h_)
      simp only [Option.some.injEq, Prod.mk.injEq] at H
      obtain ⟨rfl, rfl⟩ := H
      go_enter Tryd.func51, Tryd.ntmps51
      go_wp2_with (first | ((with_reducible refine gate_callee (f := 57) rfl ?_); refine goesL_ (some 6) rfl rfl Tryd.func57 (by kernel_rfl) rfl #[.int .i64 a0] rfl (by (try simp only [List.map_toArray, List.map_cons, List.map_nil]); first | done | rfl | (simp only [List.length_drop, List.length_take]; rfl)) ?_; (with_reducible refine (index_Level.calls a0 t162 _ ?side1 A2.out).mono ?_); (case side1 => repeat (first | exact HT.out | exact TabG.below HT.out HB.out | (with_reducible refine TabG.alloc ?_ _) | (with_reducible refine TabG.drewN ?_ _) | (with_reducible refine TabG.drew ?_) | exact TabG.below HT.out (by repeat (first | (with_reducible first | exact HB.out | apply below_alloc | apply pw_below_drewN | apply below_drew1) | exact HB.out)))); rintro e w' ⟨rfl, ⟨nd, rfl⟩⟩; refine ⟨_, rfl, ?_⟩))
      go_ret2
      exact ⟨by first | rfl | (simp; done) | (simp only [← hji4, ← hji6] <;> (first | rfl | simp)) | (simp [*]; done), by repeat (first | exact Drawn0.refl _ | apply Drawn0.step)⟩
    · rw [if_neg c5] at H
      exact absurd H (by simp)
section
def rightT : List (Int × Bool) := [(0, false), (2, true), (0, false), (5, true), (0, false), (6, true), (0, false), (11, true), (0, false), (10, true), (0, false), (13, true), (0, false), (14, true), (0, false)]
def index_Right.f (a0 : Int) : Option (Int × Bool) := if 0 ≤ a0 then (if a0 ≤ 14 then some (rightT.getD a0.toNat (0, false)) else none) else none
set_option maxRecDepth 100000 in
theorem right_yes (x l k r : Int) (w : World) (h0 : 0 ≤ l) (h1 : l ≤ 14) (k0 : 0 ≤ k) (k1 : k ≤ 3) (hk : (k == 63) = false) (hs : wrap64 (2 ^ k.toNat) = r) (r0 : 0 ≤ r) (r1 : r ≤ 8) (HL : Aside0 (Calls Tryd.prog 51 #[.int .i64 x] w fun e w' => e = .returned (.tuple #[.int .i64 l, .bool true]) ∧ Drawn0 w w')) (HV : Aside0 (∀ n, Calls Tryd.prog 57 #[.int .i64 x] (w.drewN n) fun e w' => e = .returned (.int .i64 k) ∧ Drawn0 (w.drewN n) w')) :
    Calls Tryd.prog 52 #[.int .i64 x] w fun e w' => e = .returned (.tuple #[.int .i64 (l + r), .bool true]) ∧ Drawn0 w w' := by
  go_enter Tryd.func52, Tryd.ntmps52
  go_wp2_with (first | (go_at_call 51; refine HL.out.mono ?_; rintro e w' ⟨rfl, ⟨nd, rfl⟩⟩) | (go_at_call 57; refine (HV.out _).mono ?_; rintro e w' ⟨rfl, ⟨nd2, rfl⟩⟩))
  go_ret2
  exact ⟨rfl, ⟨⟨_, rfl⟩⟩⟩
set_option maxRecDepth 100000 in
theorem right_no (x k : Int) (w : World) (HL : Aside0 (Calls Tryd.prog 51 #[.int .i64 x] w fun e w' => e = .returned (.tuple #[.int .i64 0, .bool false]) ∧ Drawn0 w w')) (HV : Aside0 (∀ n, Calls Tryd.prog 57 #[.int .i64 x] (w.drewN n) fun e w' => e = .returned (.int .i64 k) ∧ Drawn0 (w.drewN n) w')) :
    Calls Tryd.prog 52 #[.int .i64 x] w fun e w' => e = .returned (.tuple #[.int .i64 0, .bool false]) ∧ Drawn0 w w' := by
  go_enter Tryd.func52, Tryd.ntmps52
  go_wp2_with (first | (go_at_call 51; refine HL.out.mono ?_; rintro e w' ⟨rfl, ⟨nd, rfl⟩⟩) | (go_at_call 57; refine (HV.out _).mono ?_; rintro e w' ⟨rfl, ⟨nd2, rfl⟩⟩))
  go_ret2
  exact ⟨rfl, ⟨⟨_, rfl⟩⟩⟩
def rightOk (x : Nat) : Bool :=
  let l := (index_Left.f x).getD (0, false); let k := lvlT.getD x 0; let r := wrap64 (2 ^ k.toNat)
  index_Left.f x == some l && (if l.2 = true then decide (0 ≤ l.1) && decide (l.1 ≤ 14) && decide (0 ≤ r) && decide (r ≤ 8) && (rightT.getD x (0, false) == (l.1 + r, true)) else (l.1 == 0) && (rightT.getD x (0, false) == (0, false)))
theorem right_all : (List.range 15).all rightOk = true := by decide +kernel
theorem index_Right.calls (a0 : Int) (r1 : Int) (r2 : Bool) (w : World) (hT : TabG w) (h : index_Right.f a0 = some (r1, r2)) :
    Calls Tryd.prog 52 #[.int .i64 a0] w fun e w' => e = .returned (.tuple #[.int .i64 r1, .bool r2]) ∧ Drawn0 w w' := by
  unfold index_Right.f at h
  by_cases h0 : 0 ≤ a0
  · rw [if_pos h0] at h
    by_cases h1 : a0 ≤ 14
    · rw [if_pos h1] at h
      have hr := Option.some.inj h
      have ho := List.all_eq_true.1 right_all a0.toNat (List.mem_range.2 (by omega))
      simp only [rightOk, Bool.and_eq_true, beq_iff_eq] at ho
      rw [show ((a0.toNat : Nat) : Int) = a0 by omega] at ho
      obtain ⟨hl, ho⟩ := ho
      have hv : index_Level.f a0 = some (lvlT.getD a0.toNat 0) := by unfold index_Level.f; rw [if_pos h0, if_pos h1]
      have hs := lvl_small a0 h0 h1
      have HV : ∀ n, Calls Tryd.prog 57 #[.int .i64 a0] (w.drewN n) fun e w' => e = .returned (.int .i64 (lvlT.getD a0.toNat 0)) ∧ Drawn0 (w.drewN n) w' := fun n => index_Level.calls a0 _ _ (TabG.drewN hT n) hv
      generalize hL : (index_Left.f a0).getD (0, false) = L at hl ho
      obtain ⟨l1, l2⟩ := L
      have HL := index_Left.calls a0 l1 l2 w hT hl
      dsimp only at ho
      cases l2 with
      | true =>
        simp only [if_true, Bool.and_eq_true, decide_eq_true_eq, beq_iff_eq] at ho
        obtain ⟨⟨⟨⟨o1, o2⟩, o3⟩, o4⟩, o5⟩ := ho
        rw [o5] at hr
        obtain ⟨rfl, rfl⟩ := Prod.mk.inj hr
        exact right_yes a0 l1 _ _ w o1 o2 hs.1 hs.2 (beq_eq_false_iff_ne.mpr (by omega)) rfl o3 o4 ⟨HL⟩ ⟨HV⟩
      | false =>
        simp only [Bool.false_eq_true, if_false, Bool.and_eq_true, beq_iff_eq] at ho
        obtain ⟨rfl, o5⟩ := ho
        rw [o5] at hr
        obtain ⟨rfl, rfl⟩ := Prod.mk.inj hr
        exact right_no a0 _ w ⟨HL⟩ ⟨HV⟩
    · rw [if_neg h1] at h; cases h
  · rw [if_neg h0] at h; cases h
end
end Go.Proofs.YtfgalpfiggnkpaaDoor.PT
