/- What treeForgets_card uses of the printed words and contracts. -/
import Derived.Test.YtfgalpfiggnkpaaDoorFoPTx0
import Derived.Test.YtfgalpfiggnkpaaDoorFoPTx3
import Derived.Test.YtfgalpfiggnkpaaDoorFoPTx4
import Derived.Test.YtfgalpfiggnkpaaDoorFoPTx6
namespace Go.Proofs.YtfgalpfiggnkpaaDoor.PT
open Go.RowKit Go.Proofs.YtfgalpfiggnkpaaDoorW.PrintWords Go.Proofs.YtfgalpfiggnkpaaDoorW.PrintLast Go.Proofs.YtfgalpfiggnkpaaDoorW.PrintMore
attribute [local go_sem] max2_int min2_int max_two min_two max_three min_three max_four min_four   -- for this text's walks alone
set_option linter.unusedVariables false
set_option linter.unusedSimpArgs false
section
def struckB (fresh : List Int) (x : Int) : Bool := decide (x % 2 = 0) && decide (x / 2 ∈ fresh)
def keepL (fresh zs : List Int) : List Int := zs.filter fun x => !struckB fresh x
theorem keepL_snoc (fresh l : List Int) (x : Int) : keepL fresh (l ++ [x]) = if struckB fresh x = true then keepL fresh l else keepL fresh l ++ [x] := by
  unfold keepL
  rw [List.filter_append]
  cases h : struckB fresh x <;> simp [List.filter_cons, h]
structure KInv (fresh zs l : List Int) (i j : Nat) : Prop where
  len : l.length = zs.length
  lt : i < j
  le : j ≤ zs.length
  kept : l.take i = keepL fresh (zs.take j)
  rest : l.drop j = zs.drop j
theorem KInv.at_ {fresh zs l : List Int} {i j : Nat} (h : KInv fresh zs l i j) (hj : j < zs.length) : rd l (j : Int) = zs.getD j 0 := by
  have h1 : l[j]? = zs[j]? := by
    have a := congrArg (fun l => l[0]?) h.rest
    simpa [List.getElem?_drop] using a
  unfold rd
  rw [Int.toNat_natCast, List.getD_eq_getElem?_getD, List.getD_eq_getElem?_getD, h1]
theorem KInv.take_ {fresh zs l : List Int} {i j : Nat} (_ : KInv fresh zs l i j) (hj : j < zs.length) : zs.take (j + 1) = zs.take j ++ [zs.getD j 0] := by
  rw [List.take_succ_eq_append_getElem hj, List.getD_eq_getElem?_getD, List.getElem?_eq_getElem hj]; rfl
theorem KInv.skip {fresh zs l : List Int} {i j : Nat} (h : KInv fresh zs l i j) (hj : j < zs.length) (hs : struckB fresh (zs.getD j 0) = true) : KInv fresh zs l i (j + 1) := by
  refine ⟨h.len, by have := h.lt; omega, hj, ?_, ?_⟩
  · rw [h.take_ hj, keepL_snoc, if_pos hs]; exact h.kept
  · have a := congrArg (List.drop 1) h.rest
    simpa [List.drop_drop, Nat.add_comm] using a
theorem getD_mem (zs : List Int) (k : Nat) (hk : k < zs.length) : zs.getD k 0 ∈ zs := by rw [List.getD_eq_getElem?_getD, List.getElem?_eq_getElem hk]; exact List.getElem_mem _
def outOk (n1 gv : Nat) (f : Nat → Nat) (k q : Nat) : Prop := n1 ≤ q ∨ (q < n1 ∧ q ≠ gv ∧ f q < k)
structure TgInv (fresh : List Int) (rows : List S71) (W0 w1 wr : World) (gv : Nat) (f : Nat → Nat) (k : Nat) (v : Value) : Prop where
  out : Kd.S (Kd.slice 3 (Kd.int .i64)) 32 wr W0.heap.size (outOk w1.heap.size gv f k) v ((rows.take k).map fun r => keepL fresh r.f1)
  todo : ∀ j r u, k ≤ j → rows[j]? = some r → w1.cell? ⟨gv, j * 2 + 1, none⟩ = some u → Kd.R (Kd.int .i64) 3 wr W0.heap.size (fun q => q ≠ gv ∧ f q = j ∧ q < w1.heap.size) u r.f1
  gvb : wr.heap[gv]? = w1.heap[gv]?
  bel : Below W0.heap.size W0 wr
  size : w1.heap.size ≤ wr.heap.size
theorem TgInv.next {fresh : List Int} {rows : List S71} {W0 w1 wr wA w2 w3 : World} {gv gu : Nat} {f : Nat → Nat} {k : Nat} {v v3 : Value} {r : S71} {o : Obj} (h : TgInv fresh rows W0 w1 wr gv f k v) (hA : wA = wr.alloc o) (hgk : gu ≠ gv ∧ f gu = k ∧ gu < w1.heap.size) (hgv : gv < w1.heap.size) (hr : rows[k]? = some r)
    (hg2 : wA.grownBy w2 (some gu)) (hb3 : Below W0.heap.size W0 w3) (hg3 : w2.grownBy w3 v.ownBlock) (ho : Kd.S (Kd.slice 3 (Kd.int .i64)) 32 w3 W0.heap.size (outOk w1.heap.size gv f (k + 1)) v3 (((rows.take k).map fun r => keepL fresh r.f1) ++ [keepL fresh r.f1])) : TgInv fresh rows W0 w1 w3 gv f (k + 1) v3 := by
  subst hA
  have hown : ∀ q, v.ownBlock = some q → outOk w1.heap.size gv f k q := fun q hq => (Kd.S_R h.out).1 q hq
  have hsA : w1.heap.size ≤ (wr.alloc o).heap.size := Nat.le_trans h.size (by simp)
  refine ⟨?_, ?_, ?_, hb3, Nat.le_trans hsA (Nat.le_trans hg2.size hg3.size)⟩
  · have hkl := (List.getElem?_eq_some_iff.1 hr).1
    have : (rows.take (k + 1)) = rows.take k ++ [r] := by rw [List.take_succ_eq_append_getElem hkl, (List.getElem?_eq_some_iff.1 hr).2]
    rw [this, List.map_append]
    exact ho
  · intro j r' u hj hr' hu
    have h1 := h.todo j r' u (by omega) hr' hu
    refine Kd.R_grown (Kd.R_grown (Kd.R_alloc h1 o) hg2 (fun q hq e => ?_)) hg3 (fun q hq e => ?_)
    · injection e with e
      subst e
      have := hq.2.1
      omega
    · rcases hown q e.symm with h4 | h4
      · have := hq.2.2; omega
      · have := hq.2.1; have := h4.2.2; omega
  · have hlA : gv < (wr.alloc o).heap.size := Nat.lt_of_lt_of_le hgv hsA
    rw [hg3.block gv (Nat.lt_of_lt_of_le hlA hg2.size) (fun e => ?_), hg2.block gv hlA (fun e => hgk.1 (by injection e with e; exact e.symm)), ← h.gvb]
    · exact (grow_alloc o none).block gv (Nat.lt_of_lt_of_le hgv h.size) (by simp)
    · rcases hown gv e.symm with h4 | h4
      · omega
      · exact h4.2.1 rfl
theorem resF_mem {t : List S45} (hs : Small t) : ∀ (k x : Nat) (e : Int), e ∈ resF k t x → 0 ≤ e ∧ e ≤ x + 2 ^ k + 14 := by
  have hown : ∀ (k x : Nat) (e : Int), e ∈ ((x : Int) :: (nodeN t x).f3.map (fun u => 2 * u)) → 0 ≤ e ∧ e ≤ x + 2 ^ k + 14 := by
    intro k x e he
    have hp : (0 : Int) < 2 ^ k := Int.pow_pos (by decide)
    rcases List.mem_cons.1 he with rfl | he
    · omega
    · obtain ⟨u, hu, rfl⟩ := List.mem_map.1 he
      have := (hs.un x).2 u hu
      omega
  intro k
  induction k with
  | zero =>
    intro x e he
    by_cases h : 0 < (nodeN t x).f0
    · rw [resF_own 0 h] at he
      exact hown 0 x e he
    · rw [resF_zero h] at he
      cases he
  | succ k ih =>
    intro x e he
    by_cases h : 0 < (nodeN t x).f0
    · rw [resF_own (k + 1) h] at he
      exact hown (k + 1) x e he
    · rw [resF_succ k h] at he
      have hp : (0 : Int) < 2 ^ k := Int.pow_pos (by decide)
      have hcast : ((2 ^ k : Nat) : Int) = 2 ^ k := by simp
      have h2 : (2 : Int) ^ (k + 1) = 2 * 2 ^ k := by rw [Int.pow_succ]; omega
      rcases List.mem_append.1 he with he | he
      · have := ih _ _ he
        omega
      · have := ih _ _ he
        rw [Int.natCast_add, hcast] at this
        omega
theorem resT_mem {t : List S45} (h : okB t = true) {x : Nat} (hx : x < t.length) : ∀ e ∈ resT t x, 0 ≤ e ∧ e ≤ 1000 := by
  intro e he
  have hs := small_of_ok h (by intro e; subst e; simp at hx)
  have h15 := (lst_at t hs.lv x hx).2.2
  have hl := List.all_eq_true.1 lvl_le x (List.mem_range.2 (by omega))
  have hl := of_decide_eq_true hl
  have hm := resF_mem hs (lvlN x) x e he
  have hp : (2 : Int) ^ (lvlN x) ≤ 8 := by
    have : lvlN x = 0 ∨ lvlN x = 1 ∨ lvlN x = 2 ∨ lvlN x = 3 := by omega
    rcases this with h | h | h | h <;> rw [h] <;> decide
  omega
theorem rowsTo_mem {t : List S45} (h : okB t = true) (n i : Nat) (hc : ∀ x ∈ copL n i, x < t.length) : ∀ k, k ≤ (copL n i).length → ∀ r ∈ rowsTo t n i k, r.f1 ≠ [] ∧ r.f1.length ≤ 1000 ∧ ∀ x ∈ r.f1, 0 ≤ x ∧ x ≤ 1000 := by
  intro k
  induction k with
  | zero => intro _ r hr; simp [rowsTo] at hr
  | succ k ih =>
    intro hk r hr
    have hcx : (copL n i).getD k 0 < t.length := hc _ (by rw [List.getD_eq_getElem?_getD, List.getElem?_eq_getElem (by omega)]; exact List.getElem_mem _)
    simp only [rowsTo] at hr
    split at hr
    · exact ih (by omega) r hr
    · rename_i hne
      rcases List.mem_append.1 hr with hr | hr
      · exact ih (by omega) r hr
      · obtain rfl := List.mem_singleton.1 hr
        exact ⟨hne, by have := resT_len h hcx; show (resT t _).length ≤ 1000; omega, resT_mem h hcx⟩
theorem rows_small {t : List S45} {leaf : Int} {rows : List S71} {e : Int} (h : tree_rows.f t leaf = some (rows, e)) : rows.length ≤ 3 ∧ ∀ r ∈ rows, r.f1 ≠ [] ∧ r.f1.length ≤ 1000 ∧ ∀ x ∈ r.f1, 0 ≤ x ∧ x ≤ 1000 := by
  unfold tree_rows.f at h
  by_cases hw : t.all (fun n => wfI n.f1) = true
  · rw [if_pos hw] at h
    have h := Option.some.inj h
    by_cases hok : okB t = true
    · rw [if_pos hok] at h
      by_cases hc : 0 ≤ leaf ∧ leaf < lvsN t ∧ (nodeN t (2 * leaf).toNat).f0 ≠ 0
      · rw [if_pos hc] at h
        injection h with h1 h2
        subst h1
        have hne : t ≠ [] := by intro e; subst e; simp [lvsN] at hc; omega
        have hv := (ok_parts hok hne).1
        obtain ⟨hn, htl⟩ := lvs_at t hv
        obtain ⟨q1, q2, q3, q4⟩ := cop_at (lvsN t) leaf.toNat hn (by omega)
        have h3 := dirL_len (lvsN t) leaf.toNat
        have h4 := rowsTo_len t (lvsN t) leaf.toNat (dirL (lvsN t) leaf.toNat).length
        unfold rowsT
        exact ⟨by omega, rowsTo_mem hok _ _ (fun x hx => by rw [htl]; exact q3 x hx) _ (by omega)⟩
      · rw [if_neg hc] at h
        injection h with h1 h2
        subst h1
        simp
    · rw [if_neg hok] at h
      injection h with h1 h2
      subst h1
      simp
  · rw [if_neg hw] at h; cases h
end
end Go.Proofs.YtfgalpfiggnkpaaDoor.PT
