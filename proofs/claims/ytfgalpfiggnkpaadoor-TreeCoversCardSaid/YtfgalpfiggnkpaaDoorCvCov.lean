/- What treeCovers_card uses of the printed words and contracts. -/
import Derived.Test.YtfgalpfiggnkpaaDoorCvPure0
import Derived.Test.YtfgalpfiggnkpaaDoorCvPTx12
import Derived.Test.YtfgalpfiggnkpaaDoorCvPTx16
namespace Go.Proofs.YtfgalpfiggnkpaaDoor.PT
open Go.RowKit Go.Proofs.YtfgalpfiggnkpaaDoorW.PrintWords Go.Proofs.YtfgalpfiggnkpaaDoorW.PrintLast Go.Proofs.YtfgalpfiggnkpaaDoorW.PrintMore
set_option linter.unusedVariables false
set_option linter.unusedSimpArgs false
theorem alive_ends : Ends (fun k => phratrylaw08_alive.f k) true := ⟨12, fun k hk => at_rounds phratrylaw08_alive.mono hk phratrylaw08_alive.at12⟩
theorem Ends.step {α : Type} {g : Nat → Option α} {r : α} (h : Ends (fun k => g (k + 1)) r) : Ends g r := by
  obtain ⟨K, h⟩ := h
  refine ⟨K + 1, fun k hk => ?_⟩
  obtain ⟨q, rfl⟩ : ∃ m, k = m + 1 := ⟨k - 1, by omega⟩
  exact h q (by omega)
theorem Ends.from {α : Type} {g h : Nat → Option α} {r : α} (K : Nat) (e : ∀ k, K ≤ k → g k = h k) (hh : Ends h r) : Ends g r := by
  obtain ⟨K2, h2⟩ := hh
  exact ⟨K + K2, fun k hk => by rw [e k (by omega)]; exact h2 k (by omega)⟩
theorem alive_bind : Ends (fun k => (phratrylaw08_alive.f k).bind fun t => some t) true := by
  obtain ⟨K, h⟩ := alive_ends
  exact ⟨K, fun k hk => by
    show ((phratrylaw08_alive.f k).bind fun t => some t) = some true
    rw [show phratrylaw08_alive.f k = some true from h k hk]
    rfl⟩
theorem within_any (i e k : Nat) (hi : i ≤ 7) (he : e ≤ 14) (hk : 10 ≤ k) : phratryref02_Within.f k (2 * (i : Int)) (e : Int) = some (spanB i e) :=
  at_rounds (g := fun k => phratryref02_Within.f k (2 * (i : Int)) (e : Int)) (phratryref02_Within.mono _ _) hk (within_at i e hi he)
theorem w2 (i : Nat) (h : i ≤ 100) : wrap64 (2 * (i : Int)) = 2 * (i : Int) := by unfold wrap64; omega
theorem w1 (i : Nat) (h : i ≤ 100000) : wrap64 ((i : Int) + 1) = ((i + 1 : Nat) : Int) := by unfold wrap64; omega
theorem rd2 (t : List S45) (i : Nat) : rd_T45 t (2 * (i : Int)) = nodeN t (2 * i) := by
  have := rd_at t (2 * i)
  rwa [show ((2 * i : Nat) : Int) = 2 * (i : Int) by omega] at this
theorem size_ok {t : List S45} (h : Came t) (hok : okB t = true) : tree_Size.f t = some (lvsN t : Int) := by rw [size_at h.wf, if_pos hok]
theorem cov_l2 {t : List S45} (h : Came t) (hok : okB t = true) (j : Nat) (l : List Int) (hl : l.length ≤ 100000) (he : ∀ e ∈ l, 0 ≤ e ∧ e < (t.length : Int))
    (hn : ∀ i, i < lvsN t → 0 < (nodeN t (2 * i)).f0 → namesN t i l = if i = j then 0 else 1) : ∀ (d i : Nat), i + d = lvsN t → Ends (fun k => phratrylaw08_TreeCovers.l2 k (j : Int) l (i : Int) t) true := by
  have hlv := ok_len hok
  intro d
  induction d with
  | zero =>
    intro i hi
    refine Ends.step (Ends.from 0 (fun k _ => ?_) alive_bind)
    simp only [phratrylaw08_TreeCovers.l2, size_ok h hok, Option.bind_some]
    rw [if_neg (by omega)]
  | succ d ih =>
    intro i hi
    have hi7 : i ≤ 7 := by rcases hlv with ⟨_, e⟩ | ⟨e, _⟩ <;> omega
    have htl : t.length = 2 * lvsN t - 1 := by rcases hlv with ⟨_, e⟩ | ⟨_, e⟩ <;> omega
    refine Ends.step (Ends.from 0 (fun k _ => ?_) (ih (i + 1) (by omega)))
    simp only [phratrylaw08_TreeCovers.l2, size_ok h hok, Option.bind_some]
    have hnm := names_at hok (show i < lvsN t by omega) l hl he
    rw [if_pos (by omega), w2 i (by omega), w1 i (by omega), rd2, hnm]
    by_cases hp : 0 < (nodeN t (2 * i)).f0
    · have hni := hn i (by omega) hp
      by_cases hij : i = j
      · rw [if_pos (by omega), if_pos (by omega), if_pos (by omega), if_pos hp, Option.bind_some, hni, if_pos hij, if_pos (by simp)]
      · rw [if_neg (by omega), if_pos (by omega), if_pos (by omega), if_pos hp, Option.bind_some, hni, if_neg hij, if_pos (by simp)]
    · by_cases hij : i = j
      · rw [if_pos (by omega), if_pos (by omega), if_pos (by omega), if_neg hp]
      · rw [if_neg (by omega), if_pos (by omega), if_pos (by omega), if_neg hp]
theorem cov_l1 {t : List S45} (j : Nat) (rows : List (List Int)) (hr : rows.length ≤ 1000) (hl : rows.flatten.length ≤ 100000) (hend : Ends (fun k => phratrylaw08_TreeCovers.l2 k (j : Int) rows.flatten 0 t) true) : ∀ (d i : Nat), i + d = rows.length → Ends (fun k => phratrylaw08_TreeCovers.l1 k (j : Int) rows (rows.take i).flatten (i : Int) t) true := by
  intro d
  induction d with
  | zero =>
    intro i hi
    refine Ends.step (Ends.from 0 (fun k _ => ?_) hend)
    simp only [phratrylaw08_TreeCovers.l1]
    rw [if_neg (by omega), List.take_of_length_le (by omega)]
  | succ d ih =>
    intro i hi
    refine Ends.step (Ends.from 0 (fun k _ => ?_) (ih (i + 1) (by omega)))
    simp only [phratrylaw08_TreeCovers.l1]
    have hil : i < rows.length := by omega
    have hrd : rd_L1 rows (i : Int) = rows[i] := by unfold rd_L1; simp [List.getD_eq_getElem?_getD, List.getElem?_eq_getElem hil]
    have htk : (rows.take (i + 1)).flatten = (rows.take i).flatten ++ rows[i] := by rw [List.take_succ_eq_append_getElem hil, List.flatten_append]; simp
    have hlen : ((rows.take i).flatten).length + (rows[i]).length ≤ 100000 := by
      have h1 : ((rows.take (i + 1)).flatten).length ≤ rows.flatten.length := by
        have := List.take_append_drop (i + 1) rows
        conv => rhs; rw [← this]
        rw [List.flatten_append, List.length_append]
        omega
      rw [htk, List.length_append] at h1
      omega
    rw [if_pos (by omega), if_pos (by omega), hrd, if_pos (by omega), w1 i (by omega), htk]
theorem cov_j2 {t : List S45} (h : Came t) (hok : okB t = true) (leaf : Int) : Ends (fun k => phratrylaw08_TreeCovers.j2 k leaf t) true := by
  by_cases hl : 0 ≤ leaf ∧ leaf < lvsN t ∧ (nodeN t (2 * leaf).toNat).f0 ≠ 0
  · obtain ⟨hl0, hl1, hl2⟩ := hl
    obtain ⟨j, rfl⟩ : ∃ j : Nat, leaf = (j : Int) := ⟨leaf.toNat, by omega⟩
    have hj : j < lvsN t := by omega
    have hne : t ≠ [] := by intro e; subst e; simp [lvsN] at hj
    obtain ⟨hn, htl⟩ := lvs_at t (ok_parts hok hne).1
    have hrows : tree_rows.f t (j : Int) = some (rowsT t j, 0) := by
      unfold tree_rows.f
      rw [if_pos h.wf, if_pos hok, if_pos ⟨hl0, hl1, hl2⟩, Int.toNat_natCast]
    have htg : tree_Targets.f t (j : Int) [] = some ((rowsT t j).map S71.f1, 0) := by
      unfold tree_Targets.f
      rw [if_pos (by simp), hrows]
      simp only [Option.map_some, keepL_nil]
    obtain ⟨q1, q2, q3, q4⟩ := cop_at (lvsN t) j hn hj
    obtain ⟨r1, r2⟩ := rowsTo_low hok (lvsN t) j (fun x hx => by rw [htl]; exact q3 x hx) (dirL (lvsN t) j).length (by omega)
    have hd3 := dirL_len (lvsN t) j
    have hrl := rowsTo_len t (lvsN t) j (dirL (lvsN t) j).length
    have hfl : ((rowsT t j).map S71.f1).flatten = flatR (rowsT t j) := by unfold flatR; rw [List.flatMap_def]
    have hend := cov_l1 (t := t) j ((rowsT t j).map S71.f1) (by rw [List.length_map]; unfold rowsT; omega) (by rw [hfl]; unfold rowsT; omega) (by
      rw [hfl]
      have := cov_l2 h hok j (flatR (rowsT t j)) (by unfold rowsT; omega) r1 (fun i hi hp => rowsT_names hok hp hi hj) (lvsN t) 0 (by omega)
      exact this) ((rowsT t j).map S71.f1).length 0 (by omega)
    refine Ends.step (Ends.from 0 (fun k _ => ?_) hend)
    simp only [phratrylaw08_TreeCovers.j2]
    rw [htg, Option.bind_some, if_pos rfl]
    rfl
  · have hrows : tree_rows.f t leaf = some ([], 7) := by
      unfold tree_rows.f
      rw [if_pos h.wf, if_pos hok, if_neg hl]
    have htg : tree_Targets.f t leaf [] = some ([], 7) := by
      unfold tree_Targets.f
      rw [if_pos (by simp), hrows]
      rfl
    refine Ends.step (Ends.from 0 (fun k _ => ?_) alive_bind)
    simp only [phratrylaw08_TreeCovers.j2]
    rw [htg, Option.bind_some, if_neg (by decide)]
theorem cov_l0 {t : List S45} (h : Came t) (hok : okB t = true) (x : Nat) (hx : x < t.length) (leaf : Int) : ∀ (d i : Nat), i + d = lvsN t → Ends (fun k => phratrylaw08_TreeCovers.l0 k (x : Int) leaf (resT t x) (i : Int) t) true := by
  have hne : t ≠ [] := by intro e; subst e; simp at hx
  obtain ⟨hn, htl⟩ := lvs_at t (ok_parts hok hne).1
  have hrl := resT_len hok hx
  have hlo := resT_low hok hx
  intro d
  induction d with
  | zero =>
    intro i hi
    refine Ends.step (Ends.from 0 (fun k _ => ?_) (cov_j2 h hok leaf))
    simp only [phratrylaw08_TreeCovers.l0, size_ok h hok, Option.bind_some]
    rw [if_neg (by omega)]
  | succ d ih =>
    intro i hi
    refine Ends.step (Ends.from 10 (fun k hk => ?_) (ih (i + 1) (by omega)))
    simp only [phratrylaw08_TreeCovers.l0, size_ok h hok, Option.bind_some]
    have hnm := names_at hok (show i < lvsN t by omega) (resT t x) (by omega) hlo
    rw [if_pos (by omega), w2 i (by omega), w1 i (by omega), rd2, hnm, within_any i x k (by omega) (by omega) hk, Option.bind_some]
    by_cases hp : 0 < (nodeN t (2 * i)).f0
    · have hcv := coverT hok hp (by omega) hx
      cases hs : spanB i x with
      | true =>
        have hcv : namesN t i (resT t x) = 1 := by rw [hcv, if_pos hs]
        rw [if_pos rfl, if_pos (by omega), if_pos (by omega), if_pos hp, Option.bind_some, hcv, if_pos (by simp)]
      | false =>
        have hcv : namesN t i (resT t x) = 0 := by rw [hcv, if_neg (by rw [hs]; simp)]
        rw [if_neg (by simp), if_pos (by omega), if_pos (by omega), if_pos hp, Option.bind_some, hcv, if_pos (by simp)]
    · cases hs : spanB i x with
      | true => rw [if_pos rfl, if_pos (by omega), if_pos (by omega), if_neg hp]
      | false => rw [if_neg (by simp), if_pos (by omega), if_pos (by omega), if_neg hp]
theorem covers_pure {t : List S45} (h : Came t) (x leaf : Int) : Ends (fun k => phratrylaw08_TreeCovers.f k t x leaf) true := by
  have hj : ∀ b, Ends (fun k => phratrylaw08_TreeCovers.j0 k x leaf b t) true ∨ (b = false ∧ okB t = false) := by
    intro b
    cases b with
    | true =>
      refine .inl (Ends.step (Ends.from 0 (fun k _ => ?_) alive_bind))
      simp only [phratrylaw08_TreeCovers.j0, if_true]
    | false =>
      by_cases hok : okB t = true
      · refine .inl ?_
        by_cases hx : 0 ≤ x ∧ x < t.length
        · obtain ⟨y, rfl⟩ : ∃ y : Nat, x = (y : Int) := ⟨x.toNat, by omega⟩
          have hres : tree_Resolution.f t (y : Int) = some (resT t y, 0) := by
            unfold tree_Resolution.f
            rw [if_pos h.wf, if_pos hok, if_pos hx, Int.toNat_natCast]
          refine Ends.step (Ends.from 0 (fun k _ => ?_) (cov_l0 h hok y (by omega) leaf (lvsN t) 0 (by omega)))
          simp only [phratrylaw08_TreeCovers.j0, Bool.false_eq_true, if_false]
          rw [hres, Option.bind_some, if_pos rfl]
          rfl
        · have hres : tree_Resolution.f t x = some ([], 7) := by
            unfold tree_Resolution.f
            rw [if_pos h.wf, if_pos hok, if_neg hx]
          refine Ends.step (Ends.from 0 (fun k _ => ?_) (cov_j2 h hok leaf))
          simp only [phratrylaw08_TreeCovers.j0, Bool.false_eq_true, if_false]
          rw [hres, Option.bind_some, if_neg (by decide)]
      · exact .inr ⟨rfl, by simpa using hok⟩
  have hck : tree_Check.f t = some (if okB t = true then 0 else 1) := if_pos h.wf
  refine gate h (fun k b => if b = true then phratrylaw08_TreeCovers.j0 k x leaf true t else (tree_Check.f t).bind fun c => phratrylaw08_TreeCovers.j0 k x leaf (c != 0) t) true ?_ ?_
  · have := (hj true).resolve_right (fun hh => by cases hh.1)
    exact this
  · have h2 : Ends (fun k => phratrylaw08_TreeCovers.j0 k x leaf ((if okB t = true then (0 : Int) else 1) != 0) t) true := by
      by_cases hok : okB t = true
      · rw [if_pos hok]
        exact (hj false).resolve_right (fun hh => by rw [hok] at hh; cases hh.2)
      · rw [if_neg hok]
        exact (hj true).resolve_right (fun hh => by cases hh.1)
    refine Ends.from 0 (fun k _ => ?_) h2
    show (if false = true then _ else (tree_Check.f t).bind fun c => phratrylaw08_TreeCovers.j0 k x leaf (c != 0) t) = _
    rw [if_neg (by simp), hck, Option.bind_some]
end Go.Proofs.YtfgalpfiggnkpaaDoor.PT
