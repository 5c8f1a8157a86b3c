/- What treeForgets_card uses of the printed words and contracts. -/
import Derived.Test.YtfgalpfiggnkpaaDoorFoOk
import Derived.Test.YtfgalpfiggnkpaaDoorFoPTx10
namespace Go.Proofs.YtfgalpfiggnkpaaDoor.PT
open Go.RowKit Go.Proofs.YtfgalpfiggnkpaaDoorW.PrintWords Go.Proofs.YtfgalpfiggnkpaaDoorW.PrintLast Go.Proofs.YtfgalpfiggnkpaaDoorW.PrintMore
set_option linter.unusedVariables false
set_option linter.unusedSimpArgs false
theorem node_blank {T : List S45} {i x : Nat} : nodeN (T.set i z45) x = if x = i then z45 else nodeN T x := by
  rw [nodeN_set]
  by_cases e : x = i
  · subst e
    by_cases h : x < T.length
    · rw [if_pos ⟨rfl, h⟩, if_pos rfl]
    · rw [if_neg (fun hh => h hh.2), if_pos rfl, nodeN_out (by omega)]
  · rw [if_neg (fun hh => e hh.1), if_neg e]
theorem node_blankL {x : Nat} : ∀ (xs : List Nat) (T : List S45), nodeN (blankL T xs) x = if x ∈ xs then z45 else nodeN T x := by
  intro xs
  induction xs with
  | nil => intro T; simp [blankL]
  | cons a xs ih =>
    intro T
    simp only [blankL]
    rw [ih, node_blank]
    by_cases h : x ∈ xs
    · rw [if_pos h, if_pos (List.mem_cons_of_mem _ h)]
    · rw [if_neg h]
      by_cases e : x = a
      · rw [if_pos e, if_pos (by rw [e]; exact List.mem_cons_self)]
      · rw [if_neg e, if_neg (fun hm => by rcases List.mem_cons.1 hm with hh | hh; exact e hh; exact h hh)]
theorem node_cut {t : List S45} {n i x : Nat} : nodeN (cutT t n i) x = if x ∈ dirL n i ∨ x = 2 * i then z45 else nodeN t x := by
  unfold cutT
  rw [node_blankL, node_blank]
  by_cases h : x ∈ dirL n i
  · rw [if_pos h, if_pos (.inl h)]
  · rw [if_neg h]
    by_cases e : x = 2 * i
    · rw [if_pos e, if_pos (.inr e)]
    · rw [if_neg e, if_neg (fun hh => hh.elim h e)]
theorem node_take {T : List S45} {k x : Nat} : nodeN (T.take k) x = if x < k then nodeN T x else z45 := by
  unfold nodeN
  rw [List.getD_eq_getElem?_getD, List.getElem?_take]
  by_cases h : x < k
  · rw [if_pos h, if_pos h, List.getD_eq_getElem?_getD]
  · rw [if_neg h, if_neg h]; rfl
theorem node_drop {T : List S45} {k x : Nat} : nodeN (T.drop k) x = nodeN T (k + x) := by
  unfold nodeN
  rw [List.getD_eq_getElem?_getD, List.getElem?_drop, List.getD_eq_getElem?_getD]
theorem cut_len {t : List S45} {n i : Nat} : (cutT t n i).length = t.length := by unfold cutT; rw [blankL_len, List.length_set]
theorem takenFrom_iff (l : List S45) : ∀ (d i : Nat), takenFrom l d i = true ↔ ∃ k, k < d ∧ i + 2 * k < l.length ∧ blankB (nodeN l (i + 2 * k)) = false := by
  intro d
  induction d with
  | zero => intro i; simp [takenFrom]
  | succ d ih =>
    intro i
    simp only [takenFrom]
    by_cases h : i < l.length
    · rw [if_pos h, Bool.or_eq_true, ih]
      constructor
      · rintro (h1 | ⟨k, h1, h2, h3⟩)
        · exact ⟨0, by omega, by omega, by simpa using h1⟩
        · exact ⟨k + 1, by omega, by omega, by rw [show i + 2 * (k + 1) = i + 2 + 2 * k by omega]; exact h3⟩
      · rintro ⟨k, h1, h2, h3⟩
        cases k with
        | zero => exact .inl (by simpa using h3)
        | succ k => exact .inr ⟨k, by omega, by omega, by rw [show i + 2 + 2 * k = i + 2 * (k + 1) by omega]; exact h3⟩
    · rw [if_neg h]
      constructor
      · intro hh; cases hh
      · rintro ⟨k, h1, h2, h3⟩; omega
def Pow (n : Nat) : Prop := n = 1 ∨ n = 2 ∨ n = 4 ∨ n = 8
theorem row_taken {T : List S45} {N n : Nat} (hl : T.length = 2 * N - 1) (hleaf : ∀ j, j < N → leafB (nodeN T (2 * j)) = true) (hn : n = 2 ∨ n = 4 ∨ n = 8) (hN : n ≤ N) :
    takenB ((T.take (2 * n - 1)).drop n) = true ↔ ∃ j, n / 2 ≤ j ∧ j < n ∧ 0 < (nodeN T (2 * j)).f0 := by
  unfold takenB
  rw [takenFrom_iff]
  have hlen : ((T.take (2 * n - 1)).drop n).length = n - 1 := by rw [List.length_drop, List.length_take]; omega
  constructor
  · rintro ⟨k, h1, h2, h3⟩
    rw [hlen] at h2
    rw [node_drop, node_take, if_pos (by omega)] at h3
    obtain ⟨j, hj⟩ : ∃ j, n + (0 + 2 * k) = 2 * j := ⟨n / 2 + k, by omega⟩
    rw [hj] at h3
    exact ⟨j, by omega, by omega, (leafB_pub (hleaf j (by omega))).1 h3⟩
  · rintro ⟨j, h1, h2, h3⟩
    refine ⟨j - n / 2, by omega, by omega, ?_⟩
    rw [node_drop, node_take, if_pos (by omega), show n + (0 + 2 * (j - n / 2)) = 2 * j by omega]
    exact (leafB_pub (hleaf j (by omega))).2 h3
theorem shr_spec {T : List S45} {N : Nat} (hl : T.length = 2 * N - 1) (hleaf : ∀ j, j < N → leafB (nodeN T (2 * j)) = true) : ∀ (d n : Nat), Pow n → n ≤ N → 2 * n ≤ 2 ^ d → (∀ j, j < N → 0 < (nodeN T (2 * j)).f0 → j < n) →
    Pow (shrN T d n) ∧ shrN T d n ≤ n ∧ (∀ j, j < N → 0 < (nodeN T (2 * j)).f0 → j < shrN T d n) ∧ (shrN T d n = 1 ∨ ∃ j, shrN T d n / 2 ≤ j ∧ j < shrN T d n ∧ 0 < (nodeN T (2 * j)).f0) := by
  intro d
  induction d with
  | zero => intro n hn _ h2; simp at h2; rcases hn with rfl | rfl | rfl | rfl <;> omega
  | succ d ih =>
    intro n hn hN h2 hj
    simp only [shrN]
    by_cases h1 : n = 1
    · rw [if_neg (by omega)]
      exact ⟨hn, Nat.le_refl _, hj, .inl h1⟩
    have hn' : n = 2 ∨ n = 4 ∨ n = 8 := by rcases hn with h | h; exact absurd h h1; exact h
    have hrow := row_taken hl hleaf hn' hN
    cases hb : takenB ((T.take (2 * n - 1)).drop n) with
    | true =>
      rw [if_neg (by simp)]
      exact ⟨hn, Nat.le_refl _, hj, .inr (hrow.1 hb)⟩
    | false =>
      rw [if_pos ⟨by omega, rfl⟩]
      have hno : ∀ j, j < N → 0 < (nodeN T (2 * j)).f0 → j < n / 2 := by
        intro j hjN hjp
        rcases Nat.lt_or_ge j (n / 2) with h | h
        · exact h
        · exact absurd (hrow.2 ⟨j, h, hj j hjN hjp, hjp⟩) (by rw [hb]; simp)
      clear hrow hb
      have hp2 : 2 ^ (d + 1) = 2 * 2 ^ d := by rw [Nat.pow_succ]; omega
      obtain ⟨a, b, c, e⟩ := ih (n / 2) (by unfold Pow; omega) (by omega) (by omega) hno
      exact ⟨a, by omega, c, e⟩
theorem lvs_len {T : List S45} {m : Nat} (hp : Pow m) (hl : T.length = 2 * m - 1) : lvsN T = m := by
  unfold lvsN
  rcases hp with rfl | rfl | rfl | rfl <;> simp [hl]
theorem z45_blank : blankB z45 = true := by decide
theorem z45_parent {T : List S45} {x : Nat} (h : nodeN T x = z45) : parentB T x = true := by
  unfold parentB
  rw [h, if_pos (.inl (by decide))]
  exact z45_blank
theorem z45_leaf : leafB z45 = true := by decide
theorem parent_same {t T : List S45} {x : Nat} (hn : nodeN T x = nodeN t x) (h : parentB t x = true) (hu : ∀ u ∈ (nodeN t x).f3, fstT.getD x 0 ≤ u → u ≤ lstT.getD x 0 → (nodeN t (2 * u).toNat).f0 ≠ 0 → (nodeN T (2 * u).toNat).f0 ≠ 0) : parentB T x = true := by
  unfold parentB at h ⊢
  rw [hn]
  split at h
  · rename_i hc; rw [if_pos hc]; exact h
  · rename_i hc
    rw [if_neg hc]
    rw [rising_iff] at h ⊢
    exact ⟨h.1, fun u hm => ⟨(h.2 u hm).1, (h.2 u hm).2.1, hu u hm (h.2 u hm).1 (h.2 u hm).2.1 (h.2 u hm).2.2⟩⟩
theorem cut_leaf {t : List S45} {n i : Nat} (h : Ok t n) (hi : i < n) {j : Nat} : nodeN (cutT t n i) (2 * j) = if j = i then z45 else nodeN t (2 * j) := by
  rw [node_cut]
  by_cases e : j = i
  · rw [if_pos (.inr (by omega)), if_pos e]
  · rw [if_neg, if_neg e]
    rintro (hh | hh)
    · have := (dir_odd h.pow hi hh).1; omega
    · omega
theorem rem_spec {t : List S45} {n i : Nat} (h : Ok t n) (hi : i < n) (hj : ∃ j, j < n ∧ j ≠ i ∧ 0 < (nodeN t (2 * j)).f0) :
    ∃ m, Ok (remT t n i) m ∧ m ≤ n ∧ (∀ x, x < 2 * m - 1 → nodeN (remT t n i) x = nodeN (cutT t n i) x) ∧ (∀ j, j < n → j ≠ i → 0 < (nodeN t (2 * j)).f0 → j < m) := by
  have hcl : (cutT t n i).length = 2 * n - 1 := by rw [cut_len]; exact h.len
  have hleaf : ∀ j, j < n → leafB (nodeN (cutT t n i) (2 * j)) = true := by
    intro j hjn
    rw [cut_leaf h hi]
    split
    · exact z45_leaf
    · exact h.leaf hjn
  obtain ⟨hp, hle, hin, htop⟩ := shr_spec hcl hleaf 4 n h.pow (Nat.le_refl _) (by rcases h.pow with rfl | rfl | rfl | rfl <;> decide) (fun j hjn _ => hjn)
  unfold remT
  obtain ⟨m, hm⟩ : ∃ m, m = shrN (cutT t n i) 4 n := ⟨_, rfl⟩
  rw [← hm] at hp hle hin htop ⊢
  have HTop := Aside0.mk htop
  have HJ := Aside0.mk hj
  clear htop hj hm
  have hm1 : 1 ≤ m := by rcases hp with e | e | e | e <;> omega
  have hRl : ((cutT t n i).take (2 * m - 1)).length = 2 * m - 1 := by rw [List.length_take]; omega
  have hnd : ∀ x, x < 2 * m - 1 → nodeN ((cutT t n i).take (2 * m - 1)) x = nodeN (cutT t n i) x := fun x hx => by rw [node_take, if_pos hx]
  have hstay : ∀ j, j < n → j ≠ i → 0 < (nodeN t (2 * j)).f0 → j < m := by
    intro j hjn hji hjp
    exact hin j hjn (by rw [cut_leaf h hi, if_neg hji]; exact hjp)
  refine ⟨m, Ok.mk' hp hRl ?_ ?_ ?_ ?_, hle, hnd, hstay⟩
  · intro j hjm
    rw [hnd _ (by omega)]
    exact hleaf j (by omega)
  · intro x hx ho
    by_cases hd : x ∈ dirL n i
    · exact z45_parent (by rw [hnd x hx, node_cut, if_pos (.inl hd)])
    · have hne : x ≠ 2 * i := by omega
      refine parent_same (t := t) (by rw [hnd x hx, node_cut, if_neg (fun hh => hh.elim hd hne)]) (h.parent (by omega) ho) ?_
      intro u hu h1 h2 h3
      obtain ⟨q1, q2, q3, q4⟩ := lst_at ((cutT t n i).take (2 * m - 1)) (by rw [lvs_len hp hRl]; omega) x (by omega)
      rw [hRl] at q2
      obtain ⟨v, rfl⟩ : ∃ v : Nat, u = (v : Int) := ⟨u.toNat, by omega⟩
      have hvn : (2 * (v : Int)).toNat = 2 * v := by omega
      rw [hvn] at h3 ⊢
      rw [hnd _ (by omega), cut_leaf h hi]
      have hvi : v ≠ i := by
        intro e
        subst e
        exact hd ((dir_iff h.pow hi (by omega)).2 ⟨ho, h1, h2⟩)
      rw [if_neg hvi]
      exact h3
  · intro a b ha hb ha2 hb2 heq
    rw [hnd _ (by omega), cut_leaf h hi] at ha2 heq
    rw [hnd _ (by omega), cut_leaf h hi] at hb2 heq
    have hai : a ≠ i := by intro e; rw [if_pos e] at ha2; exact absurd ha2 (by decide)
    have hbi : b ≠ i := by intro e; rw [if_pos e] at hb2; exact absurd hb2 (by decide)
    rw [if_neg hai] at ha2 heq
    rw [if_neg hbi] at hb2 heq
    exact h.dist' (by omega) (by omega) ha2 hb2 heq
  · obtain ⟨j, hj1, hj2, hj3⟩ := HJ.out
    rcases HTop.out with e | ⟨k, k1, k2, k3⟩
    · have := hstay j hj1 hj2 hj3
      refine ⟨j, this, ?_, by omega⟩
      rw [hnd _ (by omega), cut_leaf h hi, if_neg hj2]
      exact hj3
    · exact ⟨k, k2, by rw [hnd _ (by omega)]; exact k3, k1⟩
theorem findFrom_spec (t : List S45) (m : Int) : ∀ (d i : Nat), (findFrom t m d i = -1 ∧ ∀ j, i ≤ j → j < i + d → 0 < (nodeN t (2 * j)).f0 → (nodeN t (2 * j)).f1 ≠ m) ∨ ∃ j : Nat, findFrom t m d i = (j : Int) ∧ i ≤ j ∧ j < i + d ∧ 0 < (nodeN t (2 * j)).f0 ∧ (nodeN t (2 * j)).f1 = m := by
  intro d
  induction d with
  | zero => intro i; exact .inl ⟨rfl, fun j h1 h2 => absurd h2 (by omega)⟩
  | succ d ih =>
    intro i
    simp only [findFrom]
    by_cases h : 0 < (nodeN t (2 * i)).f0 ∧ (nodeN t (2 * i)).f1 = m
    · rw [if_pos h]
      exact .inr ⟨i, rfl, Nat.le_refl _, by omega, h.1, h.2⟩
    · rw [if_neg h]
      rcases ih (i + 1) with ⟨h1, h2⟩ | ⟨j, h1, h2, h3, h4, h5⟩
      · refine .inl ⟨h1, fun j ha hb hp => ?_⟩
        by_cases e : j = i
        · subst e; exact fun e2 => h ⟨hp, e2⟩
        · exact h2 j (by omega) (by omega) hp
      · exact .inr ⟨j, h1, by omega, by omega, h4, h5⟩
theorem findT_spec {t : List S45} {n : Nat} (h : Ok t n) (m : Int) : (findT t m = -1 ∧ ∀ j, j < n → 0 < (nodeN t (2 * j)).f0 → (nodeN t (2 * j)).f1 ≠ m) ∨ ∃ j : Nat, findT t m = (j : Int) ∧ j < n ∧ 0 < (nodeN t (2 * j)).f0 ∧ (nodeN t (2 * j)).f1 = m := by
  unfold findT
  rw [if_pos h.ok, h.lvs]
  rcases findFrom_spec t m n 0 with ⟨h1, h2⟩ | ⟨j, h1, h2, h3, h4, h5⟩
  · exact .inl ⟨h1, fun j hj => h2 j (by omega) (by omega)⟩
  · exact .inr ⟨j, h1, by omega, h4, h5⟩
theorem memFrom_one {t : List S45} {i : Nat} : ∀ (d a : Nat), (∀ j, a ≤ j → j < a + d → 0 < (nodeN t (2 * j)).f0 → j = i) → (memFrom t d a).length = if a ≤ i ∧ i < a + d ∧ 0 < (nodeN t (2 * i)).f0 then 1 else 0 := by
  intro d
  induction d with
  | zero => intro a _; rw [if_neg (by omega)]; rfl
  | succ d ih =>
    intro a h
    simp only [memFrom]
    have ih' := ih (a + 1) (fun j h1 h2 => h j (by omega) (by omega))
    by_cases hp : 0 < (nodeN t (2 * a)).f0
    · rw [if_pos hp, List.length_cons, ih']
      have e := h a (Nat.le_refl _) (by omega) hp
      subst e
      rw [if_neg (by omega), if_pos ⟨Nat.le_refl _, by omega, hp⟩]
    · rw [if_neg hp, ih']
      by_cases e : a = i
      · subst e
        rw [if_neg (by omega), if_neg (fun hh => hp hh.2.2)]
      · by_cases hc : a + 1 ≤ i ∧ i < a + 1 + d ∧ 0 < (nodeN t (2 * i)).f0
        · rw [if_pos hc, if_pos ⟨by omega, by omega, hc.2.2⟩]
        · rw [if_neg hc, if_neg (fun hh => hc ⟨by omega, by omega, hh.2.2⟩)]
theorem other_of {t : List S45} {n i : Nat} (h : Ok t n) (hi : i < n) (hp : 0 < (nodeN t (2 * i)).f0) (hm : (memT t).length ≠ 1) : ∃ j, j < n ∧ j ≠ i ∧ 0 < (nodeN t (2 * j)).f0 := by
  refine Classical.byContradiction fun hno => hm ?_
  unfold memT
  rw [if_pos h.ok, h.lvs, memFrom_one (i := i) n 0 (fun j _ hj hjp => Classical.byContradiction fun hji => hno ⟨j, by omega, hji, hjp⟩), if_pos ⟨by omega, by omega, hp⟩]
theorem resF_from {t : List S45} : ∀ (k x : Nat), ∀ e ∈ resF k t x, ∃ y, 0 < (nodeN t y).f0 ∧ (e = (y : Int) ∨ ∃ u ∈ (nodeN t y).f3, e = 2 * u) := by
  have hown : ∀ x, 0 < (nodeN t x).f0 → ∀ e ∈ ((x : Int) :: (nodeN t x).f3.map (fun u => 2 * u)), ∃ y, 0 < (nodeN t y).f0 ∧ (e = (y : Int) ∨ ∃ u ∈ (nodeN t y).f3, e = 2 * u) := by
    intro x hp e he
    rcases List.mem_cons.1 he with rfl | he
    · exact ⟨x, hp, .inl rfl⟩
    · obtain ⟨u, hu, rfl⟩ := List.mem_map.1 he
      exact ⟨x, hp, .inr ⟨u, hu, rfl⟩⟩
  intro k
  induction k with
  | zero =>
    intro x e he
    by_cases hp : 0 < (nodeN t x).f0
    · rw [resF_own 0 hp] at he; exact hown x hp e he
    · rw [resF_zero hp] at he; cases he
  | succ k ih =>
    intro x e he
    by_cases hp : 0 < (nodeN t x).f0
    · rw [resF_own (k + 1) hp] at he; exact hown x hp e he
    · rw [resF_succ k hp] at he
      rcases List.mem_append.1 he with he | he
      · exact ih _ e he
      · exact ih _ e he
theorem Ok.un {t : List S45} {n : Nat} (h : Ok t n) {x : Nat} {u : Int} (hu : u ∈ (nodeN t x).f3) : x < 2 * n - 1 ∧ x % 2 = 1 ∧ fstT.getD x 0 ≤ u ∧ u ≤ lstT.getD x 0 ∧ ∃ v : Nat, u = (v : Int) ∧ v < n ∧ (nodeN t (2 * v)).f0 ≠ 0 := by
  have hl := h.len
  have hx : x < t.length := by
    rcases Nat.lt_or_ge x t.length with hh | hh
    · exact hh
    · rw [nodeN_out hh] at hu; cases hu
  obtain ⟨h1, h2⟩ := un_at h.ok hx (List.ne_nil_of_mem hu)
  obtain ⟨a, b, c⟩ := rising_mem _ _ h2 u hu
  have hp : 1 ≤ n := by rcases h.pow with e | e | e | e <;> omega
  obtain ⟨q1, q2, -, -⟩ := lst_at t (by rw [h.lvs]; omega) x hx
  obtain ⟨v, rfl⟩ : ∃ v : Nat, u = (v : Int) := ⟨u.toNat, by omega⟩
  have hvn : (2 * (v : Int)).toNat = 2 * v := by omega
  rw [hvn] at c
  exact ⟨by omega, h1, a, b, v, rfl, by omega, c⟩
end Go.Proofs.YtfgalpfiggnkpaaDoor.PT
