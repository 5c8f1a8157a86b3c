/- What treeFresh_card uses of the printed words and contracts. -/
import Derived.Test.YtfgalpfiggnkpaaDoorFrOk
import Derived.Test.YtfgalpfiggnkpaaDoorFrPTx12
namespace Go.Proofs.YtfgalpfiggnkpaaDoor.PT
open Go.RowKit Go.Proofs.YtfgalpfiggnkpaaDoorW.PrintWords Go.Proofs.YtfgalpfiggnkpaaDoorW.PrintLast Go.Proofs.YtfgalpfiggnkpaaDoorW.PrintMore
set_option linter.unusedVariables false
set_option linter.unusedSimpArgs false
theorem alive_ends : Ends (fun k => phratrylaw08_alive.f k) true := ⟨12, fun k hk => at_rounds phratrylaw08_alive.mono hk phratrylaw08_alive.at12⟩
theorem Ends.step {α : Type} {g : Nat → Option α} {r : α} (h : Ends (fun k => g (k + 1)) r) : Ends g r := by
  obtain ⟨K, h⟩ := h
  refine ⟨K + 1, fun k hk => ?_⟩
  obtain ⟨q, rfl⟩ : ∃ m, k = m + 1 := ⟨k - 1, by omega⟩
  exact h q (by omega)
theorem Ends.from {α : Type} {g h : Nat → Option α} {r : α} (K : Nat) (e : ∀ k, K ≤ k → g k = h k) (hh : Ends h r) : Ends g r := by
  obtain ⟨K2, h2⟩ := hh
  exact ⟨K + K2, fun k hk => by rw [e k (by omega)]; exact h2 k (by omega)⟩
theorem alive_bind : Ends (fun k => (phratrylaw08_alive.f k).bind fun t => some t) true := by
  obtain ⟨K, h⟩ := alive_ends
  exact ⟨K, fun k hk => by
    show ((phratrylaw08_alive.f k).bind fun t => some t) = some true
    rw [show phratrylaw08_alive.f k = some true from h k hk]
    rfl⟩
theorem w2 (i : Nat) (h : i ≤ 100) : wrap64 (2 * (i : Int)) = 2 * (i : Int) := by unfold wrap64; omega
theorem w1 (i : Nat) (h : i ≤ 100000) : wrap64 ((i : Int) + 1) = ((i + 1 : Nat) : Int) := by unfold wrap64; omega
theorem Ok.size {t : List S45} {n : Nat} (h : Ok t n) (hw : t.all (fun n => wfI n.f1) = true) : tree_Size.f t = some (n : Int) := by rw [size_at hw, if_pos h.ok, h.lvs]
theorem Ok.n8 {t : List S45} {n : Nat} (h : Ok t n) : n ≤ 8 ∧ 1 ≤ n := by
  rcases h.pow with e | e | e | e <;> omega
end Go.Proofs.YtfgalpfiggnkpaaDoor.PT
