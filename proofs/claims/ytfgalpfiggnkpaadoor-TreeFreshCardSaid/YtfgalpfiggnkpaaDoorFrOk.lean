/- What treeFresh_card uses of the printed words and contracts. -/
import Derived.Test.YtfgalpfiggnkpaaDoorFrPure0
namespace Go.Proofs.YtfgalpfiggnkpaaDoor.PT
open Go.RowKit Go.Proofs.YtfgalpfiggnkpaaDoorW.PrintWords Go.Proofs.YtfgalpfiggnkpaaDoorW.PrintLast Go.Proofs.YtfgalpfiggnkpaaDoorW.PrintMore
set_option linter.unusedVariables false
set_option linter.unusedSimpArgs false
theorem memsTo_mem {t : List S45} {v : Int} : ∀ k, v ∈ memsTo t k ↔ ∃ i, i < k ∧ tkB t i = true ∧ (nodeN t i).f1 = v := by
  intro k
  induction k with
  | zero => simp [memsTo]
  | succ k ih =>
    cases h : tkB t k with
    | false =>
      rw [memsTo_skip h, ih]
      constructor
      · rintro ⟨i, h1, h2, h3⟩; exact ⟨i, by omega, h2, h3⟩
      · rintro ⟨i, h1, h2, h3⟩
        have : i ≠ k := fun e => by rw [e, h] at h2; cases h2
        exact ⟨i, by omega, h2, h3⟩
    | true =>
      rw [memsTo_take h, List.mem_append, ih, List.mem_singleton]
      constructor
      · rintro (⟨i, h1, h2, h3⟩ | h3)
        · exact ⟨i, by omega, h2, h3⟩
        · exact ⟨k, by omega, h, h3.symm⟩
      · rintro ⟨i, h1, h2, h3⟩
        by_cases e : i = k
        · subst e; exact .inr h3.symm
        · exact .inl ⟨i, by omega, h2, h3⟩
theorem memsTo_nodup {t : List S45} : ∀ k, (memsTo t k).Nodup ↔ ∀ i j, i < j → j < k → tkB t i = true → tkB t j = true → (nodeN t i).f1 ≠ (nodeN t j).f1 := by
  intro k
  induction k with
  | zero => exact ⟨fun _ i j _ hj => absurd hj (by omega), fun _ => by simp [memsTo]⟩
  | succ k ih =>
    cases h : tkB t k with
    | false =>
      rw [memsTo_skip h, ih]
      constructor
      · intro hh i j hij hj hi hj2
        have : j ≠ k := fun e => by rw [e, h] at hj2; cases hj2
        exact hh i j hij (by omega) hi hj2
      · intro hh i j hij hj hi hj2; exact hh i j hij (by omega) hi hj2
    | true =>
      rw [memsTo_take h]
      constructor
      · intro hh i j hij hj hi hj2
        by_cases e : j = k
        · subst e
          intro heq
          exact not_nodup_snoc ((memsTo_mem _).2 ⟨i, hij, hi, heq⟩) hh
        · have hd : (memsTo t k).Nodup := by
            rw [List.nodup_append] at hh; exact hh.1
          exact (ih.1 hd) i j hij (by omega) hi hj2
      · intro hh
        refine nodup_snoc (ih.2 fun i j hij hj hi hj2 => hh i j hij (by omega) hi hj2) ?_
        intro hm
        obtain ⟨i, h1, h2, h3⟩ := (memsTo_mem _).1 hm
        exact hh i k h1 (by omega) h2 h h3
theorem lastTo_ge {t : List S45} {m : Nat} : ∀ k, (m : Int) ≤ lastTo t k ↔ ∃ i, i < k ∧ tkB t i = true ∧ m ≤ i / 2 := by
  intro k
  induction k with
  | zero => exact ⟨fun h => by simp [lastTo] at h; omega, fun ⟨i, h, _⟩ => absurd h (by omega)⟩
  | succ k ih =>
    cases h : tkB t k with
    | false =>
      rw [lastTo_skip h, ih]
      constructor
      · rintro ⟨i, h1, h2, h3⟩; exact ⟨i, by omega, h2, h3⟩
      · rintro ⟨i, h1, h2, h3⟩
        have : i ≠ k := fun e => by rw [e, h] at h2; cases h2
        exact ⟨i, by omega, h2, h3⟩
    | true =>
      rw [lastTo_take h]
      constructor
      · intro hh; exact ⟨k, by omega, h, by omega⟩
      · rintro ⟨i, h1, h2, h3⟩
        have : i / 2 ≤ k / 2 := Nat.div_le_div_right (by omega)
        omega
structure Ok (t : List S45) (n : Nat) : Prop where
  pow : n = 1 ∨ n = 2 ∨ n = 4 ∨ n = 8
  len : t.length = 2 * n - 1
  fine : ∀ x, x < 2 * n - 1 → fineB t x = true
  dist : ∀ i j, i < j → j < 2 * n - 1 → tkB t i = true → tkB t j = true → (nodeN t i).f1 ≠ (nodeN t j).f1
  top : ∃ i, i < 2 * n - 1 ∧ tkB t i = true ∧ n / 2 ≤ i / 2
theorem Ok.lvs {t : List S45} {n : Nat} (h : Ok t n) : lvsN t = n := by
  have hl := h.len
  unfold lvsN
  rcases h.pow with rfl | rfl | rfl | rfl <;> simp [hl]
theorem ok_of {t : List S45} (h : okB t = true) (hne : t ≠ []) : Ok t (lvsN t) := by
  obtain ⟨hv, hf, hd, ht⟩ := ok_parts h hne
  obtain ⟨hn, hl⟩ := lvs_at t hv
  refine ⟨hn, hl, fun x hx => hf x (by omega), ?_, ?_⟩
  · rw [← hl]; exact (memsTo_nodup _).1 hd
  · obtain ⟨i, h1, h2, h3⟩ := (lastTo_ge _).1 ht
    exact ⟨i, by omega, h2, h3⟩
theorem Ok.ok {t : List S45} {n : Nat} (h : Ok t n) : okB t = true := by
  have hl := h.len
  have hp : 1 ≤ n := by rcases h.pow with rfl | rfl | rfl | rfl <;> omega
  have hv := h.lvs
  have he : t.isEmpty = false := by cases t with
    | nil => simp at hl; omega
    | cons a b => rfl
  rw [ok_end he (by omega) (fun x hx => h.fine x (by omega)) ((memsTo_nodup _).2 (by rw [hl]; exact h.dist))]
  refine decide_eq_true ((lastTo_ge _).2 ?_)
  obtain ⟨i, h1, h2, h3⟩ := h.top
  exact ⟨i, by omega, h2, by omega⟩
theorem rising_iff {t : List S45} {l : Int} : ∀ (us : List Int) (f : Int), risingB t l f us = true ↔ us.Pairwise (· < ·) ∧ ∀ u ∈ us, f ≤ u ∧ u ≤ l ∧ (nodeN t (2 * u).toNat).f0 ≠ 0 := by
  intro us
  induction us with
  | nil => intro f; simp [risingB]
  | cons a us ih =>
    intro f
    simp only [risingB, Bool.and_eq_true, decide_eq_true_eq, ih, List.pairwise_cons, List.mem_cons, forall_eq_or_imp]
    constructor
    · rintro ⟨⟨⟨h1, h2⟩, h3⟩, h4, h5⟩
      exact ⟨⟨fun u hu => by have := (h5 u hu).1; omega, h4⟩, ⟨h1, h2, h3⟩, fun u hu => ⟨by have := (h5 u hu).1; omega, (h5 u hu).2⟩⟩
    · rintro ⟨⟨h1, h2⟩, ⟨h3, h4, h5⟩, h6⟩
      exact ⟨⟨⟨h3, h4⟩, h5⟩, h2, fun u hu => ⟨by have := h1 u hu; omega, (h6 u hu).2⟩⟩
theorem dir_all : ([1, 2, 4, 8].all fun n => (List.range n).all fun i => (List.range 15).all fun x => decide (x ∈ dirL n i) == (decide (x % 2 = 1) && decide (x < 2 * n - 1) && decide (fstT.getD x 0 ≤ (i : Int)) && decide ((i : Int) ≤ lstT.getD x 0))) = true := by decide +kernel
theorem dir_iff {n i x : Nat} (hn : n = 1 ∨ n = 2 ∨ n = 4 ∨ n = 8) (hi : i < n) (hx : x < 2 * n - 1) : x ∈ dirL n i ↔ x % 2 = 1 ∧ fstT.getD x 0 ≤ (i : Int) ∧ (i : Int) ≤ lstT.getD x 0 := by
  have h1 := List.all_eq_true.1 dir_all n (by rcases hn with rfl | rfl | rfl | rfl <;> simp)
  have h2 := List.all_eq_true.1 h1 i (List.mem_range.2 hi)
  have h3 := List.all_eq_true.1 h2 x (List.mem_range.2 (by omega))
  rw [beq_iff_eq] at h3
  have hx' : decide (x < 2 * n - 1) = true := decide_eq_true hx
  rw [hx', Bool.and_true] at h3
  constructor
  · intro hm
    rw [decide_eq_true hm] at h3
    simpa [and_assoc] using h3.symm
  · intro ⟨a, b, c⟩
    rw [decide_eq_true a, decide_eq_true b, decide_eq_true c] at h3
    exact of_decide_eq_true h3
theorem dir_odd {n i x : Nat} (hn : n = 1 ∨ n = 2 ∨ n = 4 ∨ n = 8) (hi : i < n) (h : x ∈ dirL n i) : x % 2 = 1 ∧ x < 2 * n - 1 := by
  have hx := (cop_at n i hn hi).2.2.2 x h
  exact ⟨((dir_iff hn hi hx).1 h).1, hx⟩
theorem Ok.leaf {t : List S45} {n : Nat} (h : Ok t n) {i : Nat} (hi : i < n) : leafB (nodeN t (2 * i)) = true := by
  have := h.fine (2 * i) (by omega)
  unfold fineB at this
  rwa [if_neg (by omega)] at this
theorem Ok.parent {t : List S45} {n : Nat} (h : Ok t n) {x : Nat} (hx : x < 2 * n - 1) (ho : x % 2 = 1) : parentB t x = true := by
  have := h.fine x hx
  unfold fineB at this
  rwa [if_pos ho] at this
theorem leafB_pub {n : S45} (h : leafB n = true) : blankB n = false ↔ 0 < n.f0 := by
  unfold leafB at h
  cases hb : blankB n with
  | true =>
    have : n.f0 = 0 := by unfold blankB at hb; simp only [Bool.and_eq_true, decide_eq_true_eq] at hb; exact hb.1.1.1
    simp [this]
  | false =>
    rw [hb] at h
    simp only [Bool.false_or, Bool.and_eq_true, decide_eq_true_eq] at h
    simp only [true_iff]
    omega
theorem Ok.tk {t : List S45} {n : Nat} (h : Ok t n) {i : Nat} (hi : i < n) : tkB t (2 * i) = true ↔ 0 < (nodeN t (2 * i)).f0 := by
  rw [← leafB_pub (h.leaf hi)]
  unfold tkB
  simp
theorem tk_even {t : List S45} {x : Nat} (h : tkB t x = true) : x % 2 = 0 := by unfold tkB at h; simp only [Bool.and_eq_true, decide_eq_true_eq] at h; exact h.1
theorem Ok.sign {t : List S45} {n : Nat} (h : Ok t n) {i : Nat} (hi : i < n) : 0 ≤ (nodeN t (2 * i)).f0 := by
  have := h.leaf hi
  unfold leafB blankB at this
  simp only [Bool.or_eq_true, Bool.and_eq_true, decide_eq_true_eq] at this
  omega
theorem Ok.mk' {t : List S45} {n : Nat} (pow : n = 1 ∨ n = 2 ∨ n = 4 ∨ n = 8) (len : t.length = 2 * n - 1) (leaf : ∀ i, i < n → leafB (nodeN t (2 * i)) = true) (par : ∀ x, x < 2 * n - 1 → x % 2 = 1 → parentB t x = true)
    (dist : ∀ i j, i < n → j < n → 0 < (nodeN t (2 * i)).f0 → 0 < (nodeN t (2 * j)).f0 → (nodeN t (2 * i)).f1 = (nodeN t (2 * j)).f1 → i = j) (top : ∃ i, i < n ∧ 0 < (nodeN t (2 * i)).f0 ∧ n / 2 ≤ i) : Ok t n := by
  have tk : ∀ x, x < 2 * n - 1 → tkB t x = true → ∃ i, x = 2 * i ∧ i < n ∧ 0 < (nodeN t (2 * i)).f0 := by
    intro x hx h
    have he := tk_even h
    obtain ⟨i, rfl⟩ : ∃ i, x = 2 * i := ⟨x / 2, by omega⟩
    refine ⟨i, rfl, by omega, (leafB_pub (leaf i (by omega))).1 ?_⟩
    unfold tkB at h
    simpa using h
  refine ⟨pow, len, fun x hx => ?_, ?_, ?_⟩
  · unfold fineB
    by_cases ho : x % 2 = 1
    · rw [if_pos ho]; exact par x hx ho
    · rw [if_neg ho]
      obtain ⟨i, rfl⟩ : ∃ i, x = 2 * i := ⟨x / 2, by omega⟩
      exact leaf i (by omega)
  · intro i j hij hj hi hj2 heq
    obtain ⟨a, rfl, ha, ha2⟩ := tk i (by omega) hi
    obtain ⟨b, rfl, hb, hb2⟩ := tk j hj hj2
    have := dist a b ha hb ha2 hb2 heq
    omega
  · obtain ⟨i, h1, h2, h3⟩ := top
    refine ⟨2 * i, by omega, ?_, by omega⟩
    unfold tkB
    rw [(leafB_pub (leaf i h1)).2 h2]
    simp
theorem Ok.dist' {t : List S45} {n : Nat} (h : Ok t n) {i j : Nat} (hi : i < n) (hj : j < n) (h1 : 0 < (nodeN t (2 * i)).f0) (h2 : 0 < (nodeN t (2 * j)).f0) (heq : (nodeN t (2 * i)).f1 = (nodeN t (2 * j)).f1) : i = j := by
  by_cases e : i = j
  · exact e
  rcases Nat.lt_or_ge i j with hl | hl
  · exact absurd heq (h.dist (2 * i) (2 * j) (by omega) (by omega) ((h.tk hi).2 h1) ((h.tk hj).2 h2))
  · exact absurd heq.symm (h.dist (2 * j) (2 * i) (by omega) (by omega) ((h.tk hj).2 h2) ((h.tk hi).2 h1))
theorem Ok.top' {t : List S45} {n : Nat} (h : Ok t n) : ∃ i, i < n ∧ 0 < (nodeN t (2 * i)).f0 ∧ n / 2 ≤ i := by
  obtain ⟨x, h1, h2, h3⟩ := h.top
  have he := tk_even h2
  obtain ⟨i, rfl⟩ : ∃ i, x = 2 * i := ⟨x / 2, by omega⟩
  exact ⟨i, by omega, (h.tk (by omega)).1 h2, by omega⟩
end Go.Proofs.YtfgalpfiggnkpaaDoor.PT
