/- What treeFresh_card uses of the printed words and contracts. -/
import Derived.Test.YtfgalpfiggnkpaaDoorFrPTx0
import Derived.Test.YtfgalpfiggnkpaaDoorFrPTx1
import Derived.Test.YtfgalpfiggnkpaaDoorFrPTx3
import Derived.Test.YtfgalpfiggnkpaaDoorFrPTx4
import Derived.Test.YtfgalpfiggnkpaaDoorFrPTx5
import Derived.Test.YtfgalpfiggnkpaaDoorFrPTx6
import Derived.Test.YtfgalpfiggnkpaaDoorFrPTx7
import Derived.Test.YtfgalpfiggnkpaaDoorFrPTx8
import Derived.Test.YtfgalpfiggnkpaaDoorFrPTx9
namespace Go.Proofs.YtfgalpfiggnkpaaDoor.PT
open Go.RowKit Go.Proofs.YtfgalpfiggnkpaaDoorW.PrintWords Go.Proofs.YtfgalpfiggnkpaaDoorW.PrintLast Go.Proofs.YtfgalpfiggnkpaaDoorW.PrintMore
set_option linter.unusedVariables false
set_option linter.unusedSimpArgs false
def Ends {α : Type} (g : Nat → Option α) (r : α) : Prop := ∃ K, ∀ k, K ≤ k → g k = some r
theorem size_go (t : List S45) (hu : ∀ x ∈ t, x.f3.length ≤ 1000000000000000) (d : Nat) : ∀ (i k : Nat) (a : Int), i + d = t.length → d < k → 0 ≤ a → a ≤ 1000000000262144 → t.length ≤ 262144 → ∃ r, (∀ q, k ≤ q → phratrylaw01_TreeSize.l0 q a (i : Int) t = some r) ∧ 0 ≤ r ∧ r ≤ 1000000000262144 := by
  induction d with
  | zero =>
    intro i k a hi hk h0 h1 _
    refine ⟨a, fun q hq => ?_, h0, h1⟩
    obtain ⟨q, rfl⟩ : ∃ m, q = m + 1 := ⟨q - 1, by omega⟩
    simp only [phratrylaw01_TreeSize.l0]
    rw [if_neg (by omega)]
  | succ d ih =>
    intro i k a hi hk h0 h1 hl
    by_cases ha : a ≤ 262144
    · have hx : (rd_T45 t (i : Int)).f3.length ≤ 1000000000000000 := by
        rw [rd_at]
        rcases nodeN_mem (T := t) (x := i) with e | e
        · rw [e]; simp [z45]
        · exact hu _ e
      obtain ⟨r, h2, h3, h4⟩ := ih (i + 1) (k - 1) (a + ((rd_T45 t (i : Int)).f3.length : Int)) (by omega) (by omega) (by omega) (by omega) hl
      refine ⟨r, fun q hq => ?_, h3, h4⟩
      obtain ⟨q, rfl⟩ : ∃ m, q = m + 1 := ⟨q - 1, by omega⟩
      simp only [phratrylaw01_TreeSize.l0]
      rw [if_pos (by omega), if_pos ha, if_pos (by omega)]
      have hi1 : wrap64 ((i : Int) + 1) = ((i + 1 : Nat) : Int) := by unfold wrap64; omega
      have hw : wrap64 (a + ((rd_T45 t (i : Int)).f3.length : Int)) = a + ((rd_T45 t (i : Int)).f3.length : Int) := by unfold wrap64; omega
      rw [hw, hi1]
      exact h2 q (by omega)
    · refine ⟨a, fun q hq => ?_, h0, h1⟩
      obtain ⟨q, rfl⟩ : ∃ m, q = m + 1 := ⟨q - 1, by omega⟩
      simp only [phratrylaw01_TreeSize.l0]
      rw [if_pos (by omega), if_neg ha]
theorem size_ends (t : List S45) (hl : t.length ≤ 1000000000000000) (hu : ∀ x ∈ t, x.f3.length ≤ 1000000000000000) : ∃ r, Ends (fun k => phratrylaw01_TreeSize.f k t) r ∧ 0 ≤ r ∧ r ≤ 1000000000262144 := by
  unfold phratrylaw01_TreeSize.f
  by_cases h : t.length ≤ 262144
  · obtain ⟨r, h1, h2, h3⟩ := size_go t hu t.length 0 (t.length + 1) (t.length : Int) (by omega) (by omega) (by omega) (by omega) h
    exact ⟨r, ⟨t.length + 1, fun k hk => by have := h1 k hk; simpa using this⟩, h2, h3⟩
  · refine ⟨t.length, ⟨1, fun k hk => ?_⟩, by omega, by omega⟩
    obtain ⟨q, rfl⟩ : ∃ m, k = m + 1 := ⟨k - 1, by omega⟩
    simp only [phratrylaw01_TreeSize.l0]
    rw [if_pos (by omega), if_neg (by omega)]
theorem beyond_ends (r : Int) (h0 : 0 ≤ r) (h1 : r ≤ 1000000000262144) : ∃ b, ∀ k, 3 ≤ k → phratrylaw01_Beyond.f k [r] = some b := by
  have hr : rd [r] 0 = r := rfl
  by_cases hb : r > 262144
  · refine ⟨true, fun k hk => ?_⟩
    obtain ⟨q, rfl⟩ : ∃ m, k = m + 1 + 1 + 1 := ⟨k - 3, by omega⟩
    unfold phratrylaw01_Beyond.f
    simp only [phratrylaw01_Beyond.l0, phratrylaw01_Beyond.j1]
    rw [hr, if_pos (by simp), if_pos (by omega), if_neg (by omega), if_pos (by simpa using hb)]
  · refine ⟨false, fun k hk => ?_⟩
    obtain ⟨q, rfl⟩ : ∃ m, k = m + 1 + 1 + 1 := ⟨k - 3, by omega⟩
    have hw : wrap64 (0 + r) = r := by unfold wrap64; omega
    have hw1 : wrap64 (0 + 1) = 1 := by unfold wrap64; omega
    unfold phratrylaw01_Beyond.f
    simp only [phratrylaw01_Beyond.l0, phratrylaw01_Beyond.j1]
    rw [hr, if_pos (by simp), if_pos (by omega), if_neg (by omega), if_neg (by simpa using hb), if_pos (by omega), if_pos (by simp), hw, if_neg hb, hw1, if_neg (by simp)]
structure Came (t : List S45) : Prop where
  len : t.length ≤ 1000000000000000
  un : ∀ x ∈ t, x.f3.length ≤ 1000000000000000
  wf : t.all (fun n => wfI n.f1) = true
theorem gate {t : List S45} (h : Came t) {α : Type} (g : Nat → Bool → Option α) (r : α) (h1 : Ends (fun k => g k true) r) (h2 : Ends (fun k => g k false) r) :
    Ends (fun k => (phratrylaw01_TreeSize.f k t).bind fun s => (phratrylaw01_Beyond.f k [s]).bind fun b => g k b) r := by
  obtain ⟨s, ⟨K1, hs⟩, hs0, hs1⟩ := size_ends t h.len h.un
  obtain ⟨b, hb⟩ := beyond_ends s hs0 hs1
  obtain ⟨K2, h1⟩ := h1
  obtain ⟨K3, h2⟩ := h2
  refine ⟨K1 + K2 + K3 + 3, fun k hk => ?_⟩
  have hs' := hs k (by omega)
  show ((phratrylaw01_TreeSize.f k t).bind fun s => (phratrylaw01_Beyond.f k [s]).bind fun b => g k b) = some r
  rw [show phratrylaw01_TreeSize.f k t = some s from hs', Option.bind_some, hb k (by omega), Option.bind_some]
  cases b
  · exact h2 k (by omega)
  · exact h1 k (by omega)
def spanB (i x : Nat) : Bool := decide (fstT.getD x 0 ≤ (i : Int)) && decide ((i : Int) ≤ lstT.getD x 0)
theorem spanB_iff {i x : Nat} : spanB i x = true ↔ fstT.getD x 0 ≤ (i : Int) ∧ (i : Int) ≤ lstT.getD x 0 := by unfold spanB; simp
theorem span_leaf : (List.range 15).all (fun x => decide (x % 2 = 1) || ((List.range 8).all fun i => spanB i x == decide (x = 2 * i))) = true := by decide +kernel
theorem span_kids : (List.range 15).all (fun x => decide (lvlN x = 0) || ((List.range 8).all fun i => (spanB i x == (spanB i (x - 2 ^ (lvlN x - 1)) || spanB i (x + 2 ^ (lvlN x - 1)))) && !(spanB i (x - 2 ^ (lvlN x - 1)) && spanB i (x + 2 ^ (lvlN x - 1))))) = true := by decide +kernel
theorem lvl_odd : (List.range 15).all (fun x => decide (lvlN x = 0) == decide (x % 2 = 0)) = true := by decide +kernel
theorem span_leaf_at {x i : Nat} (hx : x ≤ 14) (hi : i ≤ 7) (h : x % 2 = 0) : spanB i x = decide (x = 2 * i) := by
  have h1 := List.all_eq_true.1 span_leaf x (List.mem_range.2 (by omega))
  rw [Bool.or_eq_true, decide_eq_true_eq] at h1
  rcases h1 with h1 | h1
  · omega
  · have := List.all_eq_true.1 h1 i (List.mem_range.2 (by omega))
    simpa using this
theorem span_kids_at {x i : Nat} (hx : x ≤ 14) (hi : i ≤ 7) {k : Nat} (h : lvlN x = k + 1) : (if spanB i x = true then 1 else 0) = (if spanB i (x - 2 ^ k) = true then 1 else 0) + (if spanB i (x + 2 ^ k) = true then 1 else 0) := by
  have h1 := List.all_eq_true.1 span_kids x (List.mem_range.2 (by omega))
  rw [Bool.or_eq_true, decide_eq_true_eq] at h1
  rcases h1 with h1 | h1
  · omega
  · have h2 := List.all_eq_true.1 h1 i (List.mem_range.2 (by omega))
    rw [h, Nat.add_sub_cancel] at h2
    simp only [Bool.and_eq_true, beq_iff_eq] at h2
    obtain ⟨h3, h4⟩ := h2
    rw [h3]
    cases h5 : spanB i (x - 2 ^ k) <;> cases h6 : spanB i (x + 2 ^ k) <;> simp [h5, h6] at h4 ⊢
theorem lvl_odd_at {x : Nat} (hx : x ≤ 14) : lvlN x = 0 ↔ x % 2 = 0 := by
  have h1 := List.all_eq_true.1 lvl_odd x (List.mem_range.2 (by omega))
  simpa using h1
theorem names_append (t : List S45) (i : Nat) (l m : List Int) : namesN t i (l ++ m) = namesN t i l + namesN t i m := List.countP_append
theorem names_nil (t : List S45) (i : Nat) : namesN t i [] = 0 := rfl
theorem names_un (t : List S45) (i : Nat) : ∀ (us : List Int), us.Pairwise (· < ·) → (∀ u ∈ us, 0 ≤ u) → namesN t i (us.map (fun u => 2 * u)) = if (i : Int) ∈ us then 1 else 0 := by
  intro us
  induction us with
  | nil => intro _ _; rfl
  | cons u us ih =>
    intro hs h0
    obtain ⟨h1, h2⟩ := List.pairwise_cons.1 hs
    have hu := h0 u List.mem_cons_self
    have ih := ih h2 (fun v hv => h0 v (List.mem_cons_of_mem _ hv))
    have he : nameB t i (2 * u).toNat = decide ((i : Int) = u) := by
      unfold nameB
      have : (2 * u).toNat % 2 = 0 := by omega
      rw [this]
      simp
      omega
    unfold namesN at ih ⊢
    rw [List.map_cons, List.countP_cons, ih, he]
    by_cases e : (i : Int) = u
    · have : ¬ (i : Int) ∈ us := fun hm => by have := h1 _ hm; omega
      rw [if_neg this, if_pos (by simpa using e), if_pos (by rw [e]; exact List.mem_cons_self)]
    · by_cases hm : (i : Int) ∈ us <;> simp [e, hm]
theorem cover {t : List S45} (hok : okB t = true) {i : Nat} (hi : 0 < (nodeN t (2 * i)).f0) (hil : 2 * i < t.length) : ∀ (k x : Nat), lvlN x = k → x < t.length → namesN t i (resF k t x) = if spanB i x = true then 1 else 0 := by
  have hne : t ≠ [] := by intro e; subst e; simp at hil
  obtain ⟨hv, hfine, -, -⟩ := ok_parts hok hne
  have hown : ∀ x, x < t.length → 0 < (nodeN t x).f0 → namesN t i ((x : Int) :: (nodeN t x).f3.map (fun u => 2 * u)) = if spanB i x = true then 1 else 0 := by
    intro x hx hp
    obtain ⟨-, -, h15, h14⟩ := lst_at t hv x hx
    have hus : (nodeN t x).f3.Pairwise (· < ·) ∧ ∀ u ∈ (nodeN t x).f3, 0 ≤ u := by
      have hs := small_of_ok hok hne
      exact ⟨(sorted_ok hok x).1, fun u hu => ((hs.un x).2 u hu).1⟩
    have h1 := names_un t i _ hus.1 hus.2
    unfold namesN at h1 ⊢
    rw [List.countP_cons, h1, Int.toNat_natCast]
    by_cases hodd : x % 2 = 1
    · unfold nameB
      rw [hodd]
      have hne2 : ¬ x = 2 * i := by omega
      by_cases hm : (i : Int) ∈ (nodeN t x).f3
      · have hr := (un_at hok hx (List.ne_nil_of_mem hm)).2
        have hsp := rising_mem _ _ hr _ hm
        have : spanB i x = true := spanB_iff.2 ⟨hsp.1, hsp.2.1⟩
        rw [if_pos hm, if_pos this]
        simp [hne2, hm]
      · rw [if_neg hm]
        unfold spanB
        simp [hne2, hm]
    · have he : x % 2 = 0 := by omega
      have hf3 : (nodeN t x).f3 = [] := by
        by_cases hu : (nodeN t x).f3 = []
        · exact hu
        · have := (un_at hok hx hu).1; omega
      rw [hf3, if_neg (by simp), span_leaf_at h14 (by omega) he]
      unfold nameB
      rw [he]
      simp
  intro k
  induction k with
  | zero =>
    intro x hk hx
    obtain ⟨-, -, h15, h14⟩ := lst_at t hv x hx
    by_cases hp : 0 < (nodeN t x).f0
    · rw [resF_own 0 hp]; exact hown x hx hp
    · rw [resF_zero hp, names_nil, span_leaf_at h14 (by omega) ((lvl_odd_at h14).1 hk)]
      rw [if_neg]
      simp
      intro e
      exact hp (by rw [e]; exact hi)
  | succ k ih =>
    intro x hk hx
    obtain ⟨-, -, h15, h14⟩ := lst_at t hv x hx
    by_cases hp : 0 < (nodeN t x).f0
    · rw [resF_own (k + 1) hp]; exact hown x hx hp
    · obtain ⟨-, -, hl, hr, hlt⟩ := kid_yes hv hx hk
      rw [resF_succ k hp, names_append, ih _ hl (Nat.lt_of_le_of_lt (Nat.sub_le _ _) hx), ih _ hr hlt, span_kids_at h14 (by omega) hk]
theorem coverT {t : List S45} (hok : okB t = true) {i : Nat} (hi : 0 < (nodeN t (2 * i)).f0) (hil : 2 * i < t.length) {x : Nat} (hx : x < t.length) : namesN t i (resT t x) = if spanB i x = true then 1 else 0 := cover hok hi hil _ x rfl hx
def spanSum (n j i : Nat) : Nat → Nat
  | 0 => 0
  | q + 1 => spanSum n j i q + if spanB i ((copL n j).getD q 0) = true then 1 else 0
theorem spanSum_all : ([1, 2, 4, 8].all fun n => (List.range n).all fun j => (List.range n).all fun i => spanSum n j i (dirL n j).length == if i = j then 0 else 1) = true := by decide +kernel
theorem spanSum_at {n j i : Nat} (hn : n = 1 ∨ n = 2 ∨ n = 4 ∨ n = 8) (hj : j < n) (hi : i < n) : spanSum n j i (dirL n j).length = if i = j then 0 else 1 := by
  have h1 := List.all_eq_true.1 spanSum_all n (by rcases hn with rfl | rfl | rfl | rfl <;> simp)
  have h2 := List.all_eq_true.1 h1 j (List.mem_range.2 hj)
  have h3 := List.all_eq_true.1 h2 i (List.mem_range.2 hi)
  simpa using h3
def flatR (rows : List S71) : List Int := rows.flatMap S71.f1
theorem rows_names {t : List S45} (hok : okB t = true) {i : Nat} (hi : 0 < (nodeN t (2 * i)).f0) (hil : 2 * i < t.length) (n j : Nat) (hc : ∀ x ∈ copL n j, x < t.length) : ∀ k, k ≤ (copL n j).length → namesN t i (flatR (rowsTo t n j k)) = spanSum n j i k := by
  intro k
  induction k with
  | zero => intro _; rfl
  | succ k ih =>
    intro hk
    have hcx : (copL n j).getD k 0 < t.length := hc _ (by rw [List.getD_eq_getElem?_getD, List.getElem?_eq_getElem (by omega)]; exact List.getElem_mem _)
    have hcov := coverT hok hi hil hcx
    simp only [rowsTo, spanSum]
    rw [← ih (by omega), ← hcov]
    split
    · rename_i he
      rw [he, names_nil, Nat.add_zero]
    · unfold flatR
      rw [List.flatMap_append, names_append]
      simp
theorem rowsT_names {t : List S45} (hok : okB t = true) {i j : Nat} (hi : 0 < (nodeN t (2 * i)).f0) (hil : i < lvsN t) (hj : j < lvsN t) : namesN t i (flatR (rowsT t j)) = if i = j then 0 else 1 := by
  have hne : t ≠ [] := by intro e; subst e; simp [lvsN] at hil
  obtain ⟨hn, htl⟩ := lvs_at t (ok_parts hok hne).1
  obtain ⟨q1, q2, q3, q4⟩ := cop_at (lvsN t) j hn hj
  unfold rowsT
  rw [rows_names hok hi (by omega) _ _ (fun x hx => by rw [htl]; exact q3 x hx) _ (by omega), spanSum_at hn hj hil]
theorem keepL_nil (l : List Int) : keepL [] l = l := keepL_none _ _ (fun x _ => by unfold struckB; simp)
theorem resF_low {t : List S45} (hok : okB t = true) : ∀ (k x : Nat), lvlN x = k → x < t.length → ∀ e ∈ resF k t x, 0 ≤ e ∧ e < (t.length : Int) := by
  have hown : ∀ x, x < t.length → ∀ e ∈ ((x : Int) :: (nodeN t x).f3.map (fun u => 2 * u)), 0 ≤ e ∧ e < (t.length : Int) := by
    intro x hx e he
    have hne : t ≠ [] := by intro e; subst e; simp at hx
    rcases List.mem_cons.1 he with rfl | he
    · omega
    · obtain ⟨u, hu, rfl⟩ := List.mem_map.1 he
      have hr := rising_mem _ _ (un_at hok hx (List.ne_nil_of_mem hu)).2 u hu
      have hl := lst_at t (ok_parts hok hne).1 x hx
      omega
  intro k
  induction k with
  | zero =>
    intro x hk hx
    by_cases hp : 0 < (nodeN t x).f0
    · rw [resF_own 0 hp]; exact hown x hx
    · rw [resF_zero hp]; intro e he; cases he
  | succ k ih =>
    intro x hk hx
    have hne : t ≠ [] := by intro e; subst e; simp at hx
    by_cases hp : 0 < (nodeN t x).f0
    · rw [resF_own (k + 1) hp]; exact hown x hx
    · obtain ⟨-, -, hl, hr, hlt⟩ := kid_yes (ok_parts hok hne).1 hx hk
      rw [resF_succ k hp]
      intro e he
      rcases List.mem_append.1 he with he | he
      · exact ih _ hl (Nat.lt_of_le_of_lt (Nat.sub_le _ _) hx) e he
      · exact ih _ hr hlt e he
theorem resT_low {t : List S45} (hok : okB t = true) {x : Nat} (hx : x < t.length) : ∀ e ∈ resT t x, 0 ≤ e ∧ e < (t.length : Int) := resF_low hok _ x rfl hx
theorem rowsTo_low {t : List S45} (hok : okB t = true) (n j : Nat) (hc : ∀ x ∈ copL n j, x < t.length) : ∀ k, k ≤ (copL n j).length → (∀ e ∈ flatR (rowsTo t n j k), 0 ≤ e ∧ e < (t.length : Int)) ∧ (flatR (rowsTo t n j k)).length ≤ 72 * k := by
  intro k
  induction k with
  | zero => intro _; exact ⟨fun e he => by simp [rowsTo, flatR] at he, by simp [rowsTo, flatR]⟩
  | succ k ih =>
    intro hk
    have hcx : (copL n j).getD k 0 < t.length := hc _ (by rw [List.getD_eq_getElem?_getD, List.getElem?_eq_getElem (by omega)]; exact List.getElem_mem _)
    obtain ⟨h1, h2⟩ := ih (by omega)
    have h3 := resT_len hok hcx
    have h4 := resT_low hok hcx
    simp only [rowsTo]
    split
    · exact ⟨h1, by omega⟩
    · unfold flatR at h1 h2 ⊢
      rw [List.flatMap_append]
      refine ⟨fun e he => ?_, ?_⟩
      · rcases List.mem_append.1 he with he | he
        · exact h1 e he
        · exact h4 e (by simpa using he)
      · rw [List.length_append, List.flatMap_cons, List.flatMap_nil, List.append_nil]
        show (List.flatMap S71.f1 (rowsTo t n j k)).length + (resT t ((copL n j).getD k 0)).length ≤ 72 * (k + 1)
        omega
end Go.Proofs.YtfgalpfiggnkpaaDoor.PT
