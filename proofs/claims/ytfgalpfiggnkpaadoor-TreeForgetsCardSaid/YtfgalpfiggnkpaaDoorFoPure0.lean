/- What treeForgets_card uses of the printed words and contracts. -/
import Derived.Test.YtfgalpfiggnkpaaDoorFoPTx0
import Derived.Test.YtfgalpfiggnkpaaDoorFoPTx1
import Derived.Test.YtfgalpfiggnkpaaDoorFoPTx3
import Derived.Test.YtfgalpfiggnkpaaDoorFoPTx4
import Derived.Test.YtfgalpfiggnkpaaDoorFoPTx5
import Derived.Test.YtfgalpfiggnkpaaDoorFoPTx6
import Derived.Test.YtfgalpfiggnkpaaDoorFoPTx7
import Derived.Test.YtfgalpfiggnkpaaDoorFoPTx8
import Derived.Test.YtfgalpfiggnkpaaDoorFoPTx9
namespace Go.Proofs.YtfgalpfiggnkpaaDoor.PT
open Go.RowKit Go.Proofs.YtfgalpfiggnkpaaDoorW.PrintWords Go.Proofs.YtfgalpfiggnkpaaDoorW.PrintLast Go.Proofs.YtfgalpfiggnkpaaDoorW.PrintMore
set_option linter.unusedVariables false
set_option linter.unusedSimpArgs false
def Ends {α : Type} (g : Nat → Option α) (r : α) : Prop := ∃ K, ∀ k, K ≤ k → g k = some r
theorem size_go (t : List S45) (hu : ∀ x ∈ t, x.f3.length ≤ 1000000000000000) (d : Nat) : ∀ (i k : Nat) (a : Int), i + d = t.length → d < k → 0 ≤ a → a ≤ 1000000000262144 → t.length ≤ 262144 → ∃ r, (∀ q, k ≤ q → phratrylaw01_TreeSize.l0 q a (i : Int) t = some r) ∧ 0 ≤ r ∧ r ≤ 1000000000262144 := by
  induction d with
  | zero =>
    intro i k a hi hk h0 h1 _
    refine ⟨a, fun q hq => ?_, h0, h1⟩
    obtain ⟨q, rfl⟩ : ∃ m, q = m + 1 := ⟨q - 1, by omega⟩
    simp only [phratrylaw01_TreeSize.l0]
    rw [if_neg (by omega)]
  | succ d ih =>
    intro i k a hi hk h0 h1 hl
    by_cases ha : a ≤ 262144
    · have hx : (rd_T45 t (i : Int)).f3.length ≤ 1000000000000000 := by
        rw [rd_at]
        rcases nodeN_mem (T := t) (x := i) with e | e
        · rw [e]; simp [z45]
        · exact hu _ e
      obtain ⟨r, h2, h3, h4⟩ := ih (i + 1) (k - 1) (a + ((rd_T45 t (i : Int)).f3.length : Int)) (by omega) (by omega) (by omega) (by omega) hl
      refine ⟨r, fun q hq => ?_, h3, h4⟩
      obtain ⟨q, rfl⟩ : ∃ m, q = m + 1 := ⟨q - 1, by omega⟩
      simp only [phratrylaw01_TreeSize.l0]
      rw [if_pos (by omega), if_pos ha, if_pos (by omega)]
      have hi1 : wrap64 ((i : Int) + 1) = ((i + 1 : Nat) : Int) := by unfold wrap64; omega
      have hw : wrap64 (a + ((rd_T45 t (i : Int)).f3.length : Int)) = a + ((rd_T45 t (i : Int)).f3.length : Int) := by unfold wrap64; omega
      rw [hw, hi1]
      exact h2 q (by omega)
    · refine ⟨a, fun q hq => ?_, h0, h1⟩
      obtain ⟨q, rfl⟩ : ∃ m, q = m + 1 := ⟨q - 1, by omega⟩
      simp only [phratrylaw01_TreeSize.l0]
      rw [if_pos (by omega), if_neg ha]
theorem size_ends (t : List S45) (hl : t.length ≤ 1000000000000000) (hu : ∀ x ∈ t, x.f3.length ≤ 1000000000000000) : ∃ r, Ends (fun k => phratrylaw01_TreeSize.f k t) r ∧ 0 ≤ r ∧ r ≤ 1000000000262144 := by
  unfold phratrylaw01_TreeSize.f
  by_cases h : t.length ≤ 262144
  · obtain ⟨r, h1, h2, h3⟩ := size_go t hu t.length 0 (t.length + 1) (t.length : Int) (by omega) (by omega) (by omega) (by omega) h
    exact ⟨r, ⟨t.length + 1, fun k hk => by have := h1 k hk; simpa using this⟩, h2, h3⟩
  · refine ⟨t.length, ⟨1, fun k hk => ?_⟩, by omega, by omega⟩
    obtain ⟨q, rfl⟩ : ∃ m, k = m + 1 := ⟨k - 1, by omega⟩
    simp only [phratrylaw01_TreeSize.l0]
    rw [if_pos (by omega), if_neg (by omega)]
theorem beyond_ends (r : Int) (h0 : 0 ≤ r) (h1 : r ≤ 1000000000262144) : ∃ b, ∀ k, 3 ≤ k → phratrylaw01_Beyond.f k [r] = some b := by
  have hr : rd [r] 0 = r := rfl
  by_cases hb : r > 262144
  · refine ⟨true, fun k hk => ?_⟩
    obtain ⟨q, rfl⟩ : ∃ m, k = m + 1 + 1 + 1 := ⟨k - 3, by omega⟩
    unfold phratrylaw01_Beyond.f
    simp only [phratrylaw01_Beyond.l0, phratrylaw01_Beyond.j1]
    rw [hr, if_pos (by simp), if_pos (by omega), if_neg (by omega), if_pos (by simpa using hb)]
  · refine ⟨false, fun k hk => ?_⟩
    obtain ⟨q, rfl⟩ : ∃ m, k = m + 1 + 1 + 1 := ⟨k - 3, by omega⟩
    have hw : wrap64 (0 + r) = r := by unfold wrap64; omega
    have hw1 : wrap64 (0 + 1) = 1 := by unfold wrap64; omega
    unfold phratrylaw01_Beyond.f
    simp only [phratrylaw01_Beyond.l0, phratrylaw01_Beyond.j1]
    rw [hr, if_pos (by simp), if_pos (by omega), if_neg (by omega), if_neg (by simpa using hb), if_pos (by omega), if_pos (by simp), hw, if_neg hb, hw1, if_neg (by simp)]
structure Came (t : List S45) : Prop where
  len : t.length ≤ 1000000000000000
  un : ∀ x ∈ t, x.f3.length ≤ 1000000000000000
  wf : t.all (fun n => wfI n.f1) = true
theorem gate {t : List S45} (h : Came t) {α : Type} (g : Nat → Bool → Option α) (r : α) (h1 : Ends (fun k => g k true) r) (h2 : Ends (fun k => g k false) r) :
    Ends (fun k => (phratrylaw01_TreeSize.f k t).bind fun s => (phratrylaw01_Beyond.f k [s]).bind fun b => g k b) r := by
  obtain ⟨s, ⟨K1, hs⟩, hs0, hs1⟩ := size_ends t h.len h.un
  obtain ⟨b, hb⟩ := beyond_ends s hs0 hs1
  obtain ⟨K2, h1⟩ := h1
  obtain ⟨K3, h2⟩ := h2
  refine ⟨K1 + K2 + K3 + 3, fun k hk => ?_⟩
  have hs' := hs k (by omega)
  show ((phratrylaw01_TreeSize.f k t).bind fun s => (phratrylaw01_Beyond.f k [s]).bind fun b => g k b) = some r
  rw [show phratrylaw01_TreeSize.f k t = some s from hs', Option.bind_some, hb k (by omega), Option.bind_some]
  cases b
  · exact h2 k (by omega)
  · exact h1 k (by omega)
end Go.Proofs.YtfgalpfiggnkpaaDoor.PT
