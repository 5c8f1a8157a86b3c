/- What treeForgets_card uses of the printed words and contracts. -/
import Derived.Test.YtfgalpfiggnkpaaDoorFoOk
import Derived.Test.YtfgalpfiggnkpaaDoorFoPTx12
namespace Go.Proofs.YtfgalpfiggnkpaaDoor.PT
open Go.RowKit Go.Proofs.YtfgalpfiggnkpaaDoorW.PrintWords Go.Proofs.YtfgalpfiggnkpaaDoorW.PrintLast Go.Proofs.YtfgalpfiggnkpaaDoorW.PrintMore
set_option linter.unusedVariables false
set_option linter.unusedSimpArgs false
theorem alive_ends : Ends (fun k => phratrylaw08_alive.f k) true := ⟨12, fun k hk => at_rounds phratrylaw08_alive.mono hk phratrylaw08_alive.at12⟩
theorem Ends.step {α : Type} {g : Nat → Option α} {r : α} (h : Ends (fun k => g (k + 1)) r) : Ends g r := by
  obtain ⟨K, h⟩ := h
  refine ⟨K + 1, fun k hk => ?_⟩
  obtain ⟨q, rfl⟩ : ∃ m, k = m + 1 := ⟨k - 1, by omega⟩
  exact h q (by omega)
theorem Ends.from {α : Type} {g h : Nat → Option α} {r : α} (K : Nat) (e : ∀ k, K ≤ k → g k = h k) (hh : Ends h r) : Ends g r := by
  obtain ⟨K2, h2⟩ := hh
  exact ⟨K + K2, fun k hk => by rw [e k (by omega)]; exact h2 k (by omega)⟩
theorem alive_bind : Ends (fun k => (phratrylaw08_alive.f k).bind fun t => some t) true := by
  obtain ⟨K, h⟩ := alive_ends
  exact ⟨K, fun k hk => by
    show ((phratrylaw08_alive.f k).bind fun t => some t) = some true
    rw [show phratrylaw08_alive.f k = some true from h k hk]
    rfl⟩
theorem w2 (i : Nat) (h : i ≤ 100) : wrap64 (2 * (i : Int)) = 2 * (i : Int) := by unfold wrap64; omega
theorem w1 (i : Nat) (h : i ≤ 100000) : wrap64 ((i : Int) + 1) = ((i + 1 : Nat) : Int) := by unfold wrap64; omega
theorem rd2 (t : List S45) (i : Nat) : rd_T45 t (2 * (i : Int)) = nodeN t (2 * i) := by
  have := rd_at t (2 * i)
  rwa [show ((2 * i : Nat) : Int) = 2 * (i : Int) by omega] at this
theorem wf_iff {T : List S45} : T.all (fun n => wfI n.f1) = true ↔ ∀ x, wfI (nodeN T x).f1 = true := by
  rw [List.all_eq_true]
  constructor
  · intro h x
    rcases nodeN_mem (T := T) (x := x) with e | e
    · rw [e]; decide
    · exact h _ e
  · intro h s hs
    obtain ⟨x, hx, rfl⟩ := List.getElem_of_mem hs
    have := h x
    unfold nodeN at this
    rwa [List.getD_eq_getElem?_getD, List.getElem?_eq_getElem hx] at this
theorem Ok.size {t : List S45} {n : Nat} (h : Ok t n) (hw : t.all (fun n => wfI n.f1) = true) : tree_Size.f t = some (n : Int) := by rw [size_at hw, if_pos h.ok, h.lvs]
theorem Ok.len15 {t : List S45} {n : Nat} (h : Ok t n) : t.length ≤ 15 := by
  have := h.len
  rcases h.pow with e | e | e | e <;> omega
theorem Ok.n8 {t : List S45} {n : Nat} (h : Ok t n) : n ≤ 8 ∧ 1 ≤ n := by
  rcases h.pow with e | e | e | e <;> omega
theorem names_any {t : List S45} {n : Nat} (h : Ok t n) {i : Nat} (hi : i ≤ 7) (l : List Int) (hl : l.length ≤ 100000) (he : ∀ e ∈ l, 0 ≤ e ∧ e < (t.length : Int)) : phratrylaw08_names.f t l (i : Int) = some (namesN t i l : Int) := by
  have hs := small_of_ok h.ok h.ne
  have hun : ∀ n ∈ t, n.f3.length ≤ 100 := by
    intro n hn
    obtain ⟨x, hx, rfl⟩ := List.getElem_of_mem hn
    have := (hs.un x).1
    unfold nodeN at this
    rw [List.getD_eq_getElem?_getD, List.getElem?_eq_getElem hx] at this
    have h2 : (t[x]).f3.length ≤ 8 := this
    omega
  unfold phratrylaw08_names.f
  rw [if_pos ⟨by omega, h.len15, hl, hun, he⟩, Int.toNat_natCast]
theorem hasL_go (l : List Int) (v : Int) (hl : l.length ≤ 100000) : ∀ (d i k : Nat), i + d = l.length → d < k → phratrylaw08_has.l0 k l v (i : Int) = some (decide (v ∈ l.drop i)) := by
  intro d
  induction d with
  | zero =>
    intro i k hi hk
    obtain ⟨q, rfl⟩ : ∃ m, k = m + 1 := ⟨k - 1, by omega⟩
    simp only [phratrylaw08_has.l0]
    rw [if_neg (by omega), List.drop_of_length_le (by omega)]
    rfl
  | succ d ih =>
    intro i k hi hk
    obtain ⟨q, rfl⟩ : ∃ m, k = m + 1 := ⟨k - 1, by omega⟩
    simp only [phratrylaw08_has.l0]
    have hil : i < l.length := by omega
    have hrd : rd l (i : Int) = l[i] := by unfold rd; simp [List.getD_eq_getElem?_getD, List.getElem?_eq_getElem hil]
    rw [if_pos (by omega), if_pos (by omega), hrd, List.drop_eq_getElem_cons hil]
    by_cases e : l[i] = v
    · rw [if_pos e, decide_eq_true (by rw [e]; exact List.mem_cons_self)]
    · rw [if_neg e, w1 i (by omega), ih (i + 1) q (by omega) (by omega)]
      congr 1
      rw [decide_eq_decide, List.mem_cons]
      exact ⟨.inr, fun hh => hh.elim (fun e2 => absurd e2.symm e) id⟩
theorem hasL_at (l : List Int) (v : Int) (k : Nat) (hl : l.length ≤ 100000) (hk : l.length < k) : phratrylaw08_has.f k l v = some (decide (v ∈ l)) := by
  have := hasL_go l v hl l.length 0 k (by omega) hk
  unfold phratrylaw08_has.f
  simpa using this
theorem same_go (l : List Int) (hl : l.length ≤ 100000) : ∀ (d i k : Nat), i + d = l.length → d < k → phratrylaw01_SameNumbers.l0 k l l (l.length : Int) (i : Int) = some true := by
  intro d
  induction d with
  | zero =>
    intro i k hi hk
    obtain ⟨q, rfl⟩ : ∃ m, k = m + 1 := ⟨k - 1, by omega⟩
    simp only [phratrylaw01_SameNumbers.l0]
    rw [if_neg (by omega)]
  | succ d ih =>
    intro i k hi hk
    obtain ⟨q, rfl⟩ : ∃ m, k = m + 1 := ⟨k - 1, by omega⟩
    simp only [phratrylaw01_SameNumbers.l0]
    rw [if_pos (by omega), if_pos (by omega), if_pos (by omega), if_pos (by omega), w1 i (by omega)]
    exact ih (i + 1) q (by omega) (by omega)
theorem same_at (l : List Int) (k : Nat) (hl : l.length ≤ 100000) (hk : l.length < k) : phratrylaw01_SameNumbers.f k l l = some true := by
  unfold phratrylaw01_SameNumbers.f
  rw [if_pos rfl]
  exact same_go l hl l.length 0 k (by omega) hk
theorem node_same (x : S45) (k : Nat) (hl : x.f3.length ≤ 100000) (hk : x.f3.length < k) : phratrylaw01_SameNode.f k x.f0 x.f1 x.f2 x.f3 x.f0 x.f1 x.f2 x.f3 = some true := by
  unfold phratrylaw01_SameNode.f
  rw [if_pos rfl, if_pos rfl, if_pos rfl, same_at _ _ hl hk]
  rfl
end Go.Proofs.YtfgalpfiggnkpaaDoor.PT
