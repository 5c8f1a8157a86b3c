/- What treeFresh_card uses of the printed words and contracts. -/
import Derived.Test.YtfgalpfiggnkpaaDoorFrOk
import Derived.Test.YtfgalpfiggnkpaaDoorFrPTx10
namespace Go.Proofs.YtfgalpfiggnkpaaDoor.PT
open Go.RowKit Go.Proofs.YtfgalpfiggnkpaaDoorW.PrintWords Go.Proofs.YtfgalpfiggnkpaaDoorW.PrintLast Go.Proofs.YtfgalpfiggnkpaaDoorW.PrintMore
set_option linter.unusedVariables false
set_option linter.unusedSimpArgs false
def Pow (n : Nat) : Prop := n = 1 ∨ n = 2 ∨ n = 4 ∨ n = 8
theorem z45_blank : blankB z45 = true := by decide
theorem z45_parent {T : List S45} {x : Nat} (h : nodeN T x = z45) : parentB T x = true := by
  unfold parentB
  rw [h, if_pos (.inl (by decide))]
  exact z45_blank
theorem z45_leaf : leafB z45 = true := by decide
theorem parent_same {t T : List S45} {x : Nat} (hn : nodeN T x = nodeN t x) (h : parentB t x = true) (hu : ∀ u ∈ (nodeN t x).f3, fstT.getD x 0 ≤ u → u ≤ lstT.getD x 0 → (nodeN t (2 * u).toNat).f0 ≠ 0 → (nodeN T (2 * u).toNat).f0 ≠ 0) : parentB T x = true := by
  unfold parentB at h ⊢
  rw [hn]
  split at h
  · rename_i hc; rw [if_pos hc]; exact h
  · rename_i hc
    rw [if_neg hc]
    rw [rising_iff] at h ⊢
    exact ⟨h.1, fun u hm => ⟨(h.2 u hm).1, (h.2 u hm).2.1, hu u hm (h.2 u hm).1 (h.2 u hm).2.1 (h.2 u hm).2.2⟩⟩
theorem findFrom_spec (t : List S45) (m : Int) : ∀ (d i : Nat), (findFrom t m d i = -1 ∧ ∀ j, i ≤ j → j < i + d → 0 < (nodeN t (2 * j)).f0 → (nodeN t (2 * j)).f1 ≠ m) ∨ ∃ j : Nat, findFrom t m d i = (j : Int) ∧ i ≤ j ∧ j < i + d ∧ 0 < (nodeN t (2 * j)).f0 ∧ (nodeN t (2 * j)).f1 = m := by
  intro d
  induction d with
  | zero => intro i; exact .inl ⟨rfl, fun j h1 h2 => absurd h2 (by omega)⟩
  | succ d ih =>
    intro i
    simp only [findFrom]
    by_cases h : 0 < (nodeN t (2 * i)).f0 ∧ (nodeN t (2 * i)).f1 = m
    · rw [if_pos h]
      exact .inr ⟨i, rfl, Nat.le_refl _, by omega, h.1, h.2⟩
    · rw [if_neg h]
      rcases ih (i + 1) with ⟨h1, h2⟩ | ⟨j, h1, h2, h3, h4, h5⟩
      · refine .inl ⟨h1, fun j ha hb hp => ?_⟩
        by_cases e : j = i
        · subst e; exact fun e2 => h ⟨hp, e2⟩
        · exact h2 j (by omega) (by omega) hp
      · exact .inr ⟨j, h1, by omega, by omega, h4, h5⟩
theorem findT_spec {t : List S45} {n : Nat} (h : Ok t n) (m : Int) : (findT t m = -1 ∧ ∀ j, j < n → 0 < (nodeN t (2 * j)).f0 → (nodeN t (2 * j)).f1 ≠ m) ∨ ∃ j : Nat, findT t m = (j : Int) ∧ j < n ∧ 0 < (nodeN t (2 * j)).f0 ∧ (nodeN t (2 * j)).f1 = m := by
  unfold findT
  rw [if_pos h.ok, h.lvs]
  rcases findFrom_spec t m n 0 with ⟨h1, h2⟩ | ⟨j, h1, h2, h3, h4, h5⟩
  · exact .inl ⟨h1, fun j hj => h2 j (by omega) (by omega)⟩
  · exact .inr ⟨j, h1, by omega, h4, h5⟩
theorem resF_from {t : List S45} : ∀ (k x : Nat), ∀ e ∈ resF k t x, ∃ y, 0 < (nodeN t y).f0 ∧ (e = (y : Int) ∨ ∃ u ∈ (nodeN t y).f3, e = 2 * u) := by
  have hown : ∀ x, 0 < (nodeN t x).f0 → ∀ e ∈ ((x : Int) :: (nodeN t x).f3.map (fun u => 2 * u)), ∃ y, 0 < (nodeN t y).f0 ∧ (e = (y : Int) ∨ ∃ u ∈ (nodeN t y).f3, e = 2 * u) := by
    intro x hp e he
    rcases List.mem_cons.1 he with rfl | he
    · exact ⟨x, hp, .inl rfl⟩
    · obtain ⟨u, hu, rfl⟩ := List.mem_map.1 he
      exact ⟨x, hp, .inr ⟨u, hu, rfl⟩⟩
  intro k
  induction k with
  | zero =>
    intro x e he
    by_cases hp : 0 < (nodeN t x).f0
    · rw [resF_own 0 hp] at he; exact hown x hp e he
    · rw [resF_zero hp] at he; cases he
  | succ k ih =>
    intro x e he
    by_cases hp : 0 < (nodeN t x).f0
    · rw [resF_own (k + 1) hp] at he; exact hown x hp e he
    · rw [resF_succ k hp] at he
      rcases List.mem_append.1 he with he | he
      · exact ih _ e he
      · exact ih _ e he
theorem Ok.un {t : List S45} {n : Nat} (h : Ok t n) {x : Nat} {u : Int} (hu : u ∈ (nodeN t x).f3) : x < 2 * n - 1 ∧ x % 2 = 1 ∧ fstT.getD x 0 ≤ u ∧ u ≤ lstT.getD x 0 ∧ ∃ v : Nat, u = (v : Int) ∧ v < n ∧ (nodeN t (2 * v)).f0 ≠ 0 := by
  have hl := h.len
  have hx : x < t.length := by
    rcases Nat.lt_or_ge x t.length with hh | hh
    · exact hh
    · rw [nodeN_out hh] at hu; cases hu
  obtain ⟨h1, h2⟩ := un_at h.ok hx (List.ne_nil_of_mem hu)
  obtain ⟨a, b, c⟩ := rising_mem _ _ h2 u hu
  have hp : 1 ≤ n := by rcases h.pow with e | e | e | e <;> omega
  obtain ⟨q1, q2, -, -⟩ := lst_at t (by rw [h.lvs]; omega) x hx
  obtain ⟨v, rfl⟩ : ∃ v : Nat, u = (v : Int) := ⟨u.toNat, by omega⟩
  have hvn : (2 * (v : Int)).toNat = 2 * v := by omega
  rw [hvn] at c
  exact ⟨by omega, h1, a, b, v, rfl, by omega, c⟩
end Go.Proofs.YtfgalpfiggnkpaaDoor.PT
