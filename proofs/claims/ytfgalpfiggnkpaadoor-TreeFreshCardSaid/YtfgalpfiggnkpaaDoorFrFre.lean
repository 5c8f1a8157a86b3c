/- What treeFresh_card uses of the printed words and contracts. -/
import Derived.Test.YtfgalpfiggnkpaaDoorFrGat
import Derived.Test.YtfgalpfiggnkpaaDoorFrIns
import Derived.Test.YtfgalpfiggnkpaaDoorFrPTx17
namespace Go.Proofs.YtfgalpfiggnkpaaDoor.PT
open Go.RowKit Go.Proofs.YtfgalpfiggnkpaaDoorW.PrintWords Go.Proofs.YtfgalpfiggnkpaaDoorW.PrintLast Go.Proofs.YtfgalpfiggnkpaaDoorW.PrintMore
set_option linter.unusedVariables false
set_option linter.unusedSimpArgs false
def cntN (a : Nat) (l : List Int) : Nat := l.countP (fun e => decide (e = 2 * (a : Int)))
theorem cntN_snoc (a : Nat) (l : List Int) (e : Int) : cntN a (l ++ [e]) = if e = 2 * (a : Int) then cntN a l + 1 else cntN a l := by
  unfold cntN
  rw [List.countP_append]
  by_cases h : e = 2 * (a : Int)
  · rw [if_pos h, List.countP_cons_of_pos (by simpa using h)]; rfl
  · rw [if_neg h, List.countP_cons_of_neg (by simpa using h)]; rfl
theorem struck_iff (a : Nat) (e : Int) : struckB [(a : Int)] e = true ↔ e = 2 * (a : Int) := by
  unfold struckB
  simp only [List.mem_singleton, Bool.and_eq_true, decide_eq_true_eq]
  omega
theorem rdL_at (l : List (List Int)) (i : Nat) (h : i < l.length) : rd_L1 l (i : Int) = l[i] := by unfold rd_L1; simp [List.getD_eq_getElem?_getD, List.getElem?_eq_getElem h]
theorem rdI_at (l : List Int) (i : Nat) (h : i < l.length) : rd l (i : Int) = l[i] := by unfold rd; simp [List.getD_eq_getElem?_getD, List.getElem?_eq_getElem h]
theorem fre_row {a : Nat} (ha : a ≤ 100) (M : List (List Int)) (out i : Nat) (hi : i < M.length) (hM : M.length ≤ 1000) (hz : (M[i]).length ≤ 1000) (ho : out ≤ 50000)
    (hend : Ends (fun k => phratrylaw08_TreeFresh.l0 k (a : Int) (M.map (keepL [(a : Int)])) M ((out + cntN a M[i] : Nat) : Int) ((i + 1 : Nat) : Int)) true) :
    ∀ (d q : Nat), q + d = (M[i]).length → Ends (fun k => phratrylaw08_TreeFresh.l1 k (a : Int) (M.map (keepL [(a : Int)])) M ((out + cntN a ((M[i]).take q) : Nat) : Int) (i : Int) (((keepL [(a : Int)] ((M[i]).take q)).length : Nat) : Int) (q : Int)) true := by
  have hLi : rd_L1 (M.map (keepL [(a : Int)])) (i : Int) = keepL [(a : Int)] M[i] := by
    rw [rdL_at _ i (by rw [List.length_map]; exact hi)]; simp
  have hMi := rdL_at M i hi
  have hkl : ∀ z, (keepL [(a : Int)] z).length ≤ z.length := fun z => keepL_len _ z
  have hcl : ∀ z, cntN a z ≤ z.length := fun z => List.countP_le_length
  intro d
  induction d with
  | zero =>
    intro q hq
    refine Ends.step (Ends.from 0 (fun k _ => ?_) hend)
    simp only [phratrylaw08_TreeFresh.l1, hMi, hLi]
    rw [if_pos (by omega), if_pos (by omega), if_neg (by omega), if_pos (by rw [List.length_map]; omega), List.take_of_length_le (by omega), if_pos rfl, w1 i (by omega)]
  | succ d ih =>
    intro q hq
    have hql : q < (M[i]).length := by omega
    have htk : (M[i]).take (q + 1) = (M[i]).take q ++ [(M[i])[q]] := List.take_succ_eq_append_getElem hql
    have h1 := hkl ((M[i]).take q)
    have h2 := hcl ((M[i]).take q)
    have h3 : ((M[i]).take q).length = q := by rw [List.length_take]; omega
    refine Ends.step (Ends.from 0 (fun k _ => ?_) (ih (q + 1) (by omega)))
    simp only [phratrylaw08_TreeFresh.l1, hMi, hLi]
    rw [if_pos (by omega), if_pos (by omega), if_pos (by omega), if_pos (by omega), rdI_at _ q hql, w2 a ha, w1 q (by omega)]
    by_cases he : (M[i])[q] = 2 * (a : Int)
    · have hks : keepL [(a : Int)] ((M[i]).take (q + 1)) = keepL [(a : Int)] ((M[i]).take q) := by
        rw [htk, keepL_snoc, if_pos ((struck_iff a _).2 he)]
      have hcs : cntN a ((M[i]).take (q + 1)) = cntN a ((M[i]).take q) + 1 := by
        rw [htk, cntN_snoc, if_pos he]
      rw [if_pos he, hks, hcs, w1 _ (by omega)]
      congr 1
    · have hns : ¬ struckB [(a : Int)] (M[i])[q] = true := fun h => he ((struck_iff a _).1 h)
      have hks : keepL [(a : Int)] ((M[i]).take (q + 1)) = keepL [(a : Int)] ((M[i]).take q) ++ [(M[i])[q]] := by
        rw [htk, keepL_snoc, if_neg hns]
      have hcs : cntN a ((M[i]).take (q + 1)) = cntN a ((M[i]).take q) := by
        rw [htk, cntN_snoc, if_neg he]
      have hsplit : keepL [(a : Int)] M[i] = keepL [(a : Int)] ((M[i]).take (q + 1)) ++ keepL [(a : Int)] ((M[i]).drop (q + 1)) := by
        have := List.take_append_drop (q + 1) M[i]
        conv => lhs; rw [← this]
        unfold keepL
        rw [List.filter_append]
      have hkk : (keepL [(a : Int)] ((M[i]).take q)).length < (keepL [(a : Int)] M[i]).length := by
        rw [hsplit, hks, List.length_append, List.length_append]
        simp only [List.length_cons, List.length_nil]
        omega
      have hat : (keepL [(a : Int)] M[i])[(keepL [(a : Int)] ((M[i]).take q)).length] = (M[i])[q] := by
        have : (keepL [(a : Int)] M[i])[(keepL [(a : Int)] ((M[i]).take q)).length]? = some (M[i])[q] := by
          rw [hsplit, hks, List.append_assoc, List.getElem?_append_right (Nat.le_refl _), Nat.sub_self]
          rfl
        rw [List.getElem?_eq_getElem hkk] at this
        exact Option.some.inj this
      rw [if_neg he, if_pos (by rw [List.length_map]; omega), if_neg (by omega), if_pos (by omega), if_pos (by omega), rdI_at _ _ hkk, hat, if_pos rfl, w1 _ (by omega), hcs, hks, List.length_append]
      rfl
theorem fre_l0 {a : Nat} (ha : a ≤ 100) (M : List (List Int)) (hM : M.length ≤ 10) (hz : ∀ z ∈ M, z.length ≤ 1000) (h1 : cntN a M.flatten = 1) :
    ∀ (d i : Nat), i + d = M.length → Ends (fun k => phratrylaw08_TreeFresh.l0 k (a : Int) (M.map (keepL [(a : Int)])) M ((cntN a (M.take i).flatten : Nat) : Int) (i : Int)) true := by
  intro d
  induction d with
  | zero =>
    intro i hi
    refine Ends.step (Ends.from 0 (fun k _ => ?_) alive_bind)
    simp only [phratrylaw08_TreeFresh.l0]
    rw [if_neg (by omega), List.take_of_length_le (by omega), h1, if_pos (by simp)]
  | succ d ih =>
    intro i hi
    have hil : i < M.length := by omega
    have htk : (M.take (i + 1)).flatten = (M.take i).flatten ++ M[i] := by rw [List.take_succ_eq_append_getElem hil, List.flatten_append]; simp
    have hc : cntN a (M.take (i + 1)).flatten = cntN a (M.take i).flatten + cntN a M[i] := by rw [htk]; exact List.countP_append
    have hle : cntN a (M.take i).flatten ≤ 1 := by
      have := List.take_append_drop i M
      have h2 : cntN a M.flatten = cntN a (M.take i).flatten + cntN a (M.drop i).flatten := by
        conv => lhs; rw [← this]
        rw [List.flatten_append]
        exact List.countP_append
      omega
    have hrow := fre_row ha M (cntN a (M.take i).flatten) i hil (by omega) (hz _ (List.getElem_mem _)) (by omega) (by
      have := ih (i + 1) (by omega)
      rw [hc] at this
      exact this) (M[i]).length 0 (by omega)
    refine Ends.step (Ends.from 0 (fun k _ => ?_) hrow)
    simp only [phratrylaw08_TreeFresh.l0]
    rw [if_pos (by omega)]
    rfl
theorem fre_once {t : List S45} {n a j : Nat} {nd : S45} (hn : Pow n) (ha : a < n) (hl : t.length ≤ 2 * n - 1) (hO : Ok (addT t a n nd) n) (hp : 0 < nd.f0) (hj : j < n) (hne : a ≠ j) : cntN a (flatR (rowsT (addT t a n nd) j)) = 1 := by
  have hlf := @add_leaf t n a nd hn ha hl a
  rw [if_pos rfl] at hlf
  have h := rowsT_names hO.ok (i := a) (j := j) (by rw [hlf]; exact hp) (by rw [hO.lvs]; exact ha) (by rw [hO.lvs]; exact hj)
  rw [if_neg hne] at h
  rw [← h]
  unfold namesN cntN
  refine List.countP_congr (fun e he => ?_)
  -- where a row's number comes from
  have hfrom : ∀ k, ∀ e ∈ flatR (rowsTo (addT t a n nd) n j k), ∃ y, 0 < (nodeN (addT t a n nd) y).f0 ∧ (e = (y : Int) ∨ ∃ u ∈ (nodeN (addT t a n nd) y).f3, e = 2 * u) := by
    intro k
    induction k with
    | zero => intro e he; simp [rowsTo, flatR] at he
    | succ k ih =>
      intro e he
      simp only [rowsTo] at he
      split at he
      · exact ih e he
      · unfold flatR at he
        rw [List.flatMap_append, List.mem_append] at he
        rcases he with he | he
        · exact ih e he
        · rw [List.flatMap_cons, List.flatMap_nil, List.append_nil] at he
          exact resF_from _ _ e he
  unfold rowsT at he
  rw [hO.lvs] at he
  obtain ⟨y, hy, hc⟩ := hfrom _ e he
  have hev : ∀ u ∈ (nodeN (addT t a n nd) y).f3, ∃ v : Nat, u = (v : Int) := fun u hu => by
    obtain ⟨-, -, -, -, v, hv, -⟩ := hO.un hu
    exact ⟨v, hv⟩
  have hyl : y < 2 * n - 1 := by
    rcases Nat.lt_or_ge y (2 * n - 1) with hh | hh
    · exact hh
    · rw [nodeN_out (by rw [hO.len]; exact hh)] at hy; exact absurd hy (by decide)
  unfold nameB
  simp only [Bool.or_eq_true, Bool.and_eq_true, decide_eq_true_eq, Bool.not_eq_true', decide_eq_false_iff_not]
  constructor
  · intro h2
    left
    omega
  · rintro (h2 | ⟨⟨h2, h3, h4⟩, h5⟩)
    · rcases hc with hc | ⟨u, hu, hc⟩
      · omega
      · obtain ⟨v, rfl⟩ := hev u hu; omega
    · exfalso
      rcases hc with hc | ⟨u, hu, hc⟩
      · subst hc
        rw [Int.toNat_natCast] at h2 h3 h4 h5
        have hd := (dir_iff hn ha hyl).2 ⟨h2, h3, h4⟩
        have hnx := @add_node t n a nd hn ha hl y
        rw [if_pos hd] at hnx
        rw [hnx] at h5 hy
        rw [(insN_f1 a (nodeN t y)).1] at hy
        rw [insN_yes hy] at h5
        exact h5 (insL_mem.2 (.inl rfl))
      · obtain ⟨v, rfl⟩ := hev u hu; omega
theorem fresh_pure {t : List S45} (h : Came t) (m ep pub x : Int) (wm : wfI m = true) : Ends (fun k => phratrylaw08_TreeFresh.f k t m ep pub x) true := by
  unfold phratrylaw08_TreeFresh.f
  refine gate h (fun k b => if b = true then (some true) else ((tree_Add.f t m ep pub).bind fun bt413 => (if bt413.2.2 = 0 then (phratrylaw08_TreeFresh.j0 k x bt413.2.1 (bt413.2.1 == x) bt413.1) else (phratrylaw08_TreeFresh.j0 k x bt413.2.1 true bt413.1)))) true ⟨0, fun k _ => rfl⟩ ?_
  have hal : ∀ at_ T, Ends (fun k => phratrylaw08_TreeFresh.j0 k x at_ true T) true := by
    intro at_ T
    refine Ends.step (Ends.from 0 (fun k _ => ?_) alive_bind)
    simp only [phratrylaw08_TreeFresh.j0]
    rw [if_pos trivial]
  rcases add_spec h.wf (ep := ep) (pub := pub) wm with ⟨e, he, hA⟩ | ⟨n, a, hA, ha, hn, hl, hO, hw, hp, -, -, -, -⟩
  · refine Ends.from 0 (fun k _ => ?_) (hal 0 [])
    show (if false = true then (some true) else _) = _
    rw [if_neg (by simp), hA, Option.bind_some, if_neg he]
  obtain ⟨T, hT⟩ : ∃ T, T = addT t a n (newN m ep pub) := ⟨_, rfl⟩
  have honce := @fre_once t n a
  rw [← hT] at hA hO hw
  have hmain : (a : Int) ≠ x → Ends (fun k => phratrylaw08_TreeFresh.j0 k x (a : Int) false T) true := by
    intro hax
    by_cases hl : 0 ≤ x ∧ x < lvsN T ∧ (nodeN T (2 * x).toNat).f0 ≠ 0
    · obtain ⟨hl0, hl1, hl2⟩ := hl
      rw [hO.lvs] at hl1
      obtain ⟨j, rfl⟩ : ∃ j : Nat, x = (j : Int) := ⟨x.toNat, by omega⟩
      have hj : j < n := by omega
      have hrows : tree_rows.f T (j : Int) = some (rowsT T j, 0) := by
        unfold tree_rows.f
        rw [if_pos hw, if_pos hO.ok, if_pos ⟨hl0, by rw [hO.lvs]; exact hl1, hl2⟩, Int.toNat_natCast]
      have htg : ∀ fr : List Int, fr.length ≤ 1000 → tree_Targets.f T (j : Int) fr = some ((rowsT T j).map (fun q => keepL fr q.f1), 0) := by
        intro fr hfr
        unfold tree_Targets.f
        rw [if_pos hfr, hrows]
        rfl
      have e1 : (rowsT T j).map (fun q => keepL [] q.f1) = (rowsT T j).map S71.f1 := by
        refine List.map_congr_left (fun q _ => keepL_nil _)
      have e2 : (rowsT T j).map (fun q => keepL [(a : Int)] q.f1) = ((rowsT T j).map S71.f1).map (keepL [(a : Int)]) := by rw [List.map_map]; rfl
      obtain ⟨q1, q2, q3, q4⟩ := cop_at n j hn hj
      have hrl := rowsTo_len T n j (dirL n j).length
      have hd3 := dirL_len n j
      have hml : ((rowsT T j).map S71.f1).length ≤ 10 := by
        rw [List.length_map]; unfold rowsT; rw [hO.lvs]; omega
      obtain ⟨-, r2⟩ := rowsTo_low hO.ok n j (fun y hy => by rw [hO.len]; exact q3 y hy) (dirL n j).length (by omega)
      have hfl : ((rowsT T j).map S71.f1).flatten = flatR (rowsT T j) := by unfold flatR; rw [List.flatMap_def]
      have hzl : ∀ z ∈ (rowsT T j).map S71.f1, z.length ≤ 1000 := by
        intro z hz
        have h2 : z.length ≤ ((rowsT T j).map S71.f1).flatten.length := (List.sublist_flatten_of_mem hz).length_le
        rw [hfl] at h2
        unfold rowsT at h2
        rw [hO.lvs] at h2
        omega
      have hcnt : cntN a ((rowsT T j).map S71.f1).flatten = 1 := by
        rw [hfl, hT]
        exact fre_once hn ha hl (by rw [← hT]; exact hO) hp hj (by omega)
      have hend := fre_l0 (a := a) (by have := hO.n8; omega) ((rowsT T j).map S71.f1) hml hzl hcnt ((rowsT T j).map S71.f1).length 0 (by omega)
      refine Ends.step (Ends.from 0 (fun k _ => ?_) hend)
      simp only [phratrylaw08_TreeFresh.j0]
      rw [if_neg (by simp), htg _ (by simp), Option.bind_some, htg _ (by simp), Option.bind_some, if_pos rfl, if_pos rfl]
      dsimp only
      rw [e1, e2, if_pos (by simp)]
      rfl
    · have hrows : tree_rows.f T x = some ([], 7) := by
        unfold tree_rows.f
        rw [if_pos hw, if_pos hO.ok, if_neg hl]
      have htg : ∀ fr : List Int, fr.length ≤ 1000 → tree_Targets.f T x fr = some ([], 7) := by
        intro fr hfr
        unfold tree_Targets.f
        rw [if_pos hfr, hrows]
        rfl
      refine Ends.step (Ends.from 0 (fun k _ => ?_) alive_bind)
      simp only [phratrylaw08_TreeFresh.j0]
      rw [if_neg (by simp), htg _ (by simp), Option.bind_some, htg _ (by simp), Option.bind_some, if_pos rfl, if_neg (by decide)]
  by_cases hax : (a : Int) = x
  · refine Ends.from 0 (fun k _ => ?_) (hal (a : Int) T)
    show (if false = true then (some true) else _) = _
    rw [if_neg (by simp), hA, Option.bind_some, if_pos rfl]
    dsimp only
    rw [show ((a : Int) == x) = true by simpa using hax]
  · refine Ends.from 0 (fun k _ => ?_) (hmain hax)
    show (if false = true then (some true) else _) = _
    rw [if_neg (by simp), hA, Option.bind_some, if_pos rfl]
    dsimp only
    rw [show ((a : Int) == x) = false by simpa using hax]
end Go.Proofs.YtfgalpfiggnkpaaDoor.PT
