/- What treeFresh_card uses of the printed words and contracts. -/
import Derived.Test.YtfgalpfiggnkpaaDoorFrPTx0
import Derived.Test.YtfgalpfiggnkpaaDoorFrPTx1
import Derived.Test.YtfgalpfiggnkpaaDoorFrPTx3
import Derived.Test.YtfgalpfiggnkpaaDoorFrPTx4
import Derived.Test.YtfgalpfiggnkpaaDoorFrPTx5
import Derived.Test.YtfgalpfiggnkpaaDoorFrPTx6
namespace Go.Proofs.YtfgalpfiggnkpaaDoor.PT
open Go.RowKit Go.Proofs.YtfgalpfiggnkpaaDoorW.PrintWords Go.Proofs.YtfgalpfiggnkpaaDoorW.PrintLast Go.Proofs.YtfgalpfiggnkpaaDoorW.PrintMore
attribute [local go_sem] max2_int min2_int max_two min_two max_three min_three max_four min_four   -- for this text's walks alone
set_option linter.unusedVariables false
set_option linter.unusedSimpArgs false
section
def findFrom (t : List S45) (m : Int) : Nat → Nat → Int
  | 0, _ => -1
  | d + 1, i => if 0 < (nodeN t (2 * i)).f0 ∧ (nodeN t (2 * i)).f1 = m then (i : Int) else findFrom t m d (i + 1)
def findT (t : List S45) (m : Int) : Int := if okB t = true then findFrom t m (lvsN t) 0 else -1
theorem ok_len {t : List S45} (h : okB t = true) : (t = [] ∧ lvsN t = 0) ∨ ((lvsN t = 1 ∨ lvsN t = 2 ∨ lvsN t = 4 ∨ lvsN t = 8) ∧ t.length = 2 * lvsN t - 1) := by
  by_cases he : t = []
  · subst he
    exact .inl ⟨rfl, rfl⟩
  · have hv := (ok_parts h he).1
    unfold lvsN at hv ⊢
    by_cases a1 : t.length = 1
    · rw [if_pos a1]; omega
    · by_cases a2 : t.length = 3
      · rw [if_neg a1, if_pos a2]; omega
      · by_cases a3 : t.length = 7
        · rw [if_neg a1, if_neg a2, if_pos a3]; omega
        · by_cases a4 : t.length = 15
          · rw [if_neg a1, if_neg a2, if_neg a3, if_pos a4]; omega
          · exact absurd (by rw [if_neg a1, if_neg a2, if_neg a3, if_neg a4]) hv
theorem size_at {t : List S45} (hw : t.all (fun n => wfI n.f1) = true) : tree_Size.f t = some (if okB t = true then (lvsN t : Int) else 0) := by
  unfold tree_Size.f tree_Check.f
  rw [if_pos hw, Option.bind_some]
  by_cases hok : okB t = true
  · rw [if_pos hok, if_pos hok, if_pos rfl, leaves_at t (by rcases ok_len hok with ⟨h, _⟩ | h; subst h; simp; omega)]
    rfl
  · rw [if_neg hok, if_neg hok, if_neg (by decide)]
theorem find_go (t : List S45) (m : Int) (n : Nat) (hl : n = 0 ∨ t.length = 2 * n - 1) (hn : n ≤ 8) : ∀ (d i k : Nat), i + d = n → d < k → tree_Find.l0 k m (n : Int) (i : Int) t = some (findFrom t m d i) := by
  intro d
  induction d with
  | zero =>
    intro i k hi hk
    obtain ⟨k, rfl⟩ : ∃ q, k = q + 1 := ⟨k - 1, by omega⟩
    simp only [tree_Find.l0, findFrom]
    rw [if_neg (by omega)]
  | succ d ih =>
    intro i k hi hk
    obtain ⟨k, rfl⟩ : ∃ q, k = q + 1 := ⟨k - 1, by omega⟩
    have hw : wrap64 (2 * (i : Int)) = ((2 * i : Nat) : Int) := by unfold wrap64; omega
    have hw1 : wrap64 ((i : Int) + 1) = ((i + 1 : Nat) : Int) := by unfold wrap64; omega
    simp only [tree_Find.l0, findFrom]
    rw [if_pos (by omega), hw, if_pos (by omega), if_pos (by omega), rd_at, hw1, ih (i + 1) k (by omega) (by omega)]
    by_cases h0 : 0 < (nodeN t (2 * i)).f0
    · rw [if_pos h0]
      by_cases h1 : (nodeN t (2 * i)).f1 = m
      · rw [if_pos h1, if_pos ⟨h0, h1⟩]
      · rw [if_neg h1, if_neg (fun h => h1 h.2)]
    · rw [if_neg (by omega), if_neg (fun h => h0 h.1)]
theorem find_at {t : List S45} (hw : t.all (fun n => wfI n.f1) = true) (m : Int) : tree_Find.f 10 t m = some (findT t m) := by
  unfold tree_Find.f findT
  rw [size_at hw, Option.bind_some]
  by_cases hok : okB t = true
  · rw [if_pos hok, if_pos hok]
    have hl := ok_len hok
    have := find_go t m (lvsN t) (by rcases hl with ⟨_, h⟩ | h <;> omega) (by rcases hl with ⟨_, h⟩ | h <;> omega) (lvsN t) 0 10 (by omega) (by rcases hl with ⟨_, h⟩ | h <;> omega)
    simpa using this
  · rw [if_neg hok, if_neg hok]
    have := find_go t m 0 (by omega) (by omega) 0 0 10 (by omega) (by omega)
    simpa [findFrom] using this
def posN (l : List Int) (a : Int) : Nat := (l.takeWhile (fun u => decide (u < a))).length
theorem posN_le (l : List Int) (a : Int) : posN l a ≤ l.length := (List.takeWhile_sublist _).length_le
theorem posN_lt {l : List Int} (hs : l.Pairwise (· < ·)) (a : Int) : ∀ h, (hh : h < l.length) → (l[h] < a ↔ h < posN l a) := by
  induction l with
  | nil => intro h hh; simp at hh
  | cons x xs ih =>
    intro h hh
    have hx := List.pairwise_cons.1 hs
    have ih := ih hx.2
    unfold posN at ih ⊢
    by_cases hxa : x < a
    · rw [List.takeWhile_cons, if_pos (by simpa using hxa), List.length_cons]
      cases h with
      | zero => simp [hxa]
      | succ h =>
        have := ih h (by simpa using hh)
        simp only [List.getElem_cons_succ]
        omega
    · rw [List.takeWhile_cons, if_neg (by simpa using hxa), List.length_nil]
      cases h with
      | zero => simp [hxa]
      | succ h =>
        have h2 := hx.1 (xs[h]'(by simpa using hh)) (List.getElem_mem _)
        simp only [List.getElem_cons_succ]
        omega
theorem less_at (a b : Int) : cmp_Less_int.f a b = some (decide (a < b)) := by
  unfold cmp_Less_int.f cmp_isNaN_int.f
  simp
theorem u64_small (n : Int) (h0 : 0 ≤ n) (h1 : n ≤ 9223372036854775807) : IntKind.u64.wrap n = n := by
  rw [IntKind.wrap_u64]
  omega
theorem bs_step (k : Nat) (l : List Int) (a n i j h : Int) (h1 : i < j) (hm : wrap64 ((IntKind.u64.wrap (wrap64 (i + j))) / 2) = h) (h0 : 0 ≤ h) (hl : h < (l.length : Int)) : slices_BinarySearch_int_int.l0 (k + 1) l a n i j = if rd l h < a then slices_BinarySearch_int_int.l0 k l a n (wrap64 (h + 1)) j else slices_BinarySearch_int_int.l0 k l a n i h := by
  simp only [slices_BinarySearch_int_int.l0, hm, less_at, Option.bind_some, decide_eq_true_eq]
  rw [if_pos h1, if_pos h0, if_pos hl]
theorem mid_at (i j : Nat) (h : i + j ≤ 2000) : wrap64 ((IntKind.u64.wrap (wrap64 ((i : Int) + (j : Int)))) / 2) = (((i + j) / 2 : Nat) : Int) := by
  have hw0 : wrap64 ((i : Int) + (j : Int)) = ((i + j : Nat) : Int) := by unfold wrap64; omega
  have hw2 : wrap64 (((i + j : Nat) : Int) / 2) = (((i + j) / 2 : Nat) : Int) := by unfold wrap64; omega
  rw [hw0, u64_small _ (by omega) (by omega), hw2]
theorem up_one (n : Nat) (h : n ≤ 2000) : wrap64 ((n : Int) + 1) = ((n + 1 : Nat) : Int) := by unfold wrap64; omega
theorem bs_go {l : List Int} (hs : l.Pairwise (· < ·)) (hl : l.length ≤ 1000) (a : Int) : ∀ (d i j k : Nat), j - i ≤ d → i ≤ posN l a → posN l a ≤ j → j ≤ l.length → d < k → ∃ b, slices_BinarySearch_int_int.l0 k l a (l.length : Int) (i : Int) (j : Int) = some (((posN l a : Nat) : Int), b) := by
  intro d
  induction d with
  | zero =>
    intro i j k hd hi hj hjl hk
    obtain ⟨k, rfl⟩ : ∃ q, k = q + 1 := ⟨k - 1, by omega⟩
    have hij : i = posN l a := by omega
    simp only [slices_BinarySearch_int_int.l0, slices_isNaN_int.f]
    rw [if_neg (by omega), hij]
    by_cases h1 : ((posN l a : Nat) : Int) < (l.length : Int)
    · rw [if_pos h1, if_pos (by omega), if_pos h1]
      by_cases h2 : rd l ((posN l a : Nat) : Int) = a
      · rw [if_pos h2]; exact ⟨_, rfl⟩
      · rw [if_neg h2, Option.bind_some, if_neg (by simp)]; exact ⟨_, rfl⟩
    · rw [if_neg h1]; exact ⟨_, rfl⟩
  | succ d ih =>
    intro i j k hd hi hj hjl hk
    by_cases hij : i < j
    · obtain ⟨k, rfl⟩ : ∃ q, k = q + 1 := ⟨k - 1, by omega⟩
      have hh : (i + j) / 2 < l.length := by omega
      have hr : rd l (((i + j) / 2 : Nat) : Int) = l[(i + j) / 2] := by unfold rd; rw [Int.toNat_natCast, List.getD_eq_getElem?_getD, List.getElem?_eq_getElem hh]; rfl
      rw [bs_step k l a _ i j (((i + j) / 2 : Nat) : Int) (by omega) (mid_at i j (by omega)) (by omega) (by omega), hr, up_one ((i + j) / 2) (by omega)]
      have hp := posN_lt hs a ((i + j) / 2) hh
      by_cases hlt : l[(i + j) / 2] < a
      · rw [if_pos hlt]
        have := hp.1 hlt
        exact ih ((i + j) / 2 + 1) j k (by omega) (by omega) hj hjl (by omega)
      · rw [if_neg hlt]
        have : ¬ (i + j) / 2 < posN l a := fun h => hlt (hp.2 h)
        exact ih i ((i + j) / 2) k (by omega) hi (by omega) (by omega) (by omega)
    · exact ih i j k (by omega) hi hj hjl (by omega)
theorem bs_at {l : List Int} (hs : l.Pairwise (· < ·)) (hl : l.length ≤ 1000) (a : Int) : ∃ b, slices_BinarySearch_int_int.f 1002 l a = some (((posN l a : Nat) : Int), b) := by
  unfold slices_BinarySearch_int_int.f
  exact bs_go hs hl a l.length 0 l.length 1002 (by omega) (by omega) (posN_le l a) (Nat.le_refl _) (by omega)
theorem rising_pair {t : List S45} {l : Int} : ∀ (us : List Int) (f : Int), risingB t l f us = true → us.Pairwise (· < ·) ∧ ∀ u ∈ us, f ≤ u := by
  intro us
  induction us with
  | nil => intro f _; simp
  | cons u us ih =>
    intro f h
    simp only [risingB, Bool.and_eq_true, decide_eq_true_eq] at h
    obtain ⟨h1, h2⟩ := ih (u + 1) h.2
    refine ⟨List.pairwise_cons.2 ⟨fun v hv => by have := h2 v hv; omega, h1⟩, fun v hv => ?_⟩
    rcases List.mem_cons.1 hv with rfl | hv
    · exact h.1.1.1
    · have := h2 v hv; have := h.1.1.1; omega
theorem TB.own {W : World} {base g : Nat} {cs us : List Value} {T : List S45} (h : TB W base g cs us T) {j : Nat} {u : Value} (hu : us[j]? = some u) : ∀ k, u.ownBlock = some k → k ≠ g ∧ base ≤ k ∧ k < W.heap.size := by
  intro k hk
  have hjl : j < T.length := by rw [← h.ul]; exact (List.getElem?_eq_some_iff.1 hu).1
  have hR := h.ow j _ u (List.getElem?_eq_getElem hjl) hu
  exact ⟨hR.1 k hk, Kd.R_base hR k hk, Kd.R_lt hR k hk⟩
theorem set_cases {α : Type} {l : List α} {j i : Nat} {x y : α} (h : (l.set j x)[i]? = some y) : (i = j ∧ y = x ∧ j < l.length) ∨ (i ≠ j ∧ l[i]? = some y) := by
  by_cases e : i = j
  · subst e
    have hl := (List.getElem?_eq_some_iff.1 h).1
    rw [List.length_set] at hl
    rw [List.getElem?_set_self hl] at h
    exact .inl ⟨rfl, (Option.some.inj h).symm, hl⟩
  · rw [List.getElem?_set_ne (fun h => e h.symm)] at h
    exact .inr ⟨e, h⟩
theorem TB.put {W W' : World} {base g : Nat} {cs us : List Value} {T : List S45} {j : Nat} {x : S45} {u u' : Value} {l' : List Int} (h : TB W base g cs us T) (hx : T[j]? = some x) (hu : us[j]? = some u) (hg : W.grownBy W' u.ownBlock) (hR : Kd.R (Kd.int .i64) 3 W' base (fun q => q ≠ g ∨ W.heap.size ≤ q) u' l') (hat : u'.ownBlock = u.ownBlock ∨ ∃ b, u'.ownBlock = some b ∧ W.heap.size ≤ b) :
    TB (W'.setCell ⟨g, j * 4 + 3, none⟩ u') base g (cs.set (j * 4 + 3) u') (us.set j u') (T.set j { x with f3 := l' }) := by
  have hgl := blk_lt h.blk
  refine ⟨h.hb, ?_, by rw [List.length_set, List.length_set]; exact h.len, by rw [List.length_set, List.length_set]; exact h.ul, ?_, ?_, ?_⟩
  · have hb : W'.heap[g]? = some (.cells cs.toArray 45 (0, 0)) := (hg.block g hgl (fun e => (h.own hu g e.symm).1 rfl)).trans h.blk
    have := blk_set hb (j * 4 + 3) u'
    simpa using this
  · intro i y v hy hv
    rcases set_cases hy with ⟨rfl, rfl, _⟩ | ⟨hne, hy⟩
    · rcases set_cases hv with ⟨_, rfl, _⟩ | ⟨hne, _⟩
      · exact ca_set3 v (h.ce i x u hx hu)
      · exact absurd rfl hne
    · rcases set_cases hv with ⟨e, _⟩ | ⟨_, hv⟩
      · exact absurd e hne
      · rw [ca_set_other _ (by omega) hne]
        exact h.ce i y v hy hv
  · intro i y v hy hv
    rcases set_cases hy with ⟨rfl, rfl, _⟩ | ⟨hne, hy⟩
    · rcases set_cases hv with ⟨_, rfl, _⟩ | ⟨hne, _⟩
      · exact Kd.R_far (p := ⟨g, i * 4 + 3, none⟩) (Kd.R_mono hR (fun q hq => by show q ≠ g; omega)) (fun q hq => hq) _
      · exact absurd rfl hne
    · rcases set_cases hv with ⟨e, _⟩ | ⟨_, hv⟩
      · exact absurd e hne
      · refine Kd.R_far (p := ⟨g, j * 4 + 3, none⟩) (Kd.R_grown2 (h.ow i y v hy hv) rfl hg (fun k hk e => ?_)) (fun q hq => hq) _
        exact hne (h.ap i j v u k hv hu e.symm hk)
  · intro p q v1 v2 k h1 h2 k1 k2
    have hnew : ∀ i v, i ≠ j → us[i]? = some v → v.ownBlock = some k → u'.ownBlock = some k → False := by
      intro i v hi hv hk hk'
      rcases hat with e | ⟨b, e, hb⟩
      · rw [e] at hk'
        exact hi (h.ap i j v u k hv hu hk hk')
      · rw [e] at hk'
        have := (h.own hv k hk).2.2
        injection hk' with hk'
        omega
    rcases set_cases h1 with ⟨e1, e2, _⟩ | ⟨n1, h3⟩ <;> rcases set_cases h2 with ⟨e3, e4, _⟩ | ⟨n2, h4⟩
    · omega
    · exact (hnew q v2 n2 h4 k2 (by rw [← e2]; exact k1)).elim
    · exact (hnew p v1 n1 h3 k1 (by rw [← e4]; exact k2)).elim
    · exact h.ap p q v1 v2 k h3 h4 k1 k2
theorem TB.R_cell {W : World} {g : Nat} {base : Nat} {v : Value} {l : List Int} (h : Kd.R (Kd.int .i64) 3 W base (fun q => q ≠ g) v l) (i : Nat) (u : Value) : Kd.R (Kd.int .i64) 3 (W.setCell ⟨g, i, none⟩ u) base (fun q => q ≠ g) v l := Kd.R_far (p := ⟨g, i, none⟩) h (fun q hq => hq) _
def putNode (cs : List Value) (j : Nat) (x : S45) : List Value := (((cs.set (j * 4) (.int .i64 x.f0)).set (j * 4 + 1) (.int .i64 x.f1)).set (j * 4 + 2) (.int .i64 x.f2)).set (j * 4 + 3) (.slice none 0 0)
theorem TB.node {W : World} {base g : Nat} {cs us : List Value} {T : List S45} {j : Nat} (h : TB W base g cs us T) (hj : j < T.length) (x : S45) (hx : x.f3 = []) :
    TB ((((W.setCell ⟨g, j * 4, none⟩ (.int .i64 x.f0)).setCell ⟨g, j * 4 + 1, none⟩ (.int .i64 x.f1)).setCell ⟨g, j * 4 + 2, none⟩ (.int .i64 x.f2)).setCell ⟨g, j * 4 + 3, none⟩ (.slice none 0 0)) base g (putNode cs j x) (us.set j (.slice none 0 0)) (T.set j x) := by
  have hl : j * 4 + 3 < cs.length := by rw [h.len]; omega
  refine ⟨h.hb, ?_, by unfold putNode; simp only [List.length_set]; exact h.len, by rw [List.length_set, List.length_set]; exact h.ul, ?_, ?_, ?_⟩
  · have := blk_set (blk_set (blk_set (blk_set h.blk (j * 4) (.int .i64 x.f0)) (j * 4 + 1) (.int .i64 x.f1)) (j * 4 + 2) (.int .i64 x.f2)) (j * 4 + 3) (.slice none 0 0)
    simpa [putNode] using this
  · intro i y v hy hv
    rcases set_cases hy with ⟨rfl, rfl, _⟩ | ⟨hne, hy⟩
    · rcases set_cases hv with ⟨_, rfl, _⟩ | ⟨hne, _⟩
      · unfold putNode
        refine ca_of ?_ ?_ ?_ ?_
        · rw [List.getElem?_set_ne (by omega), List.getElem?_set_ne (by omega), List.getElem?_set_ne (by omega), List.getElem?_set_self (by omega)]
        · rw [List.getElem?_set_ne (by omega), List.getElem?_set_ne (by omega), List.getElem?_set_self (by simp; omega)]
        · rw [List.getElem?_set_ne (by omega), List.getElem?_set_self (by simp; omega)]
        · rw [List.getElem?_set_self (by simp; omega)]
      · exact absurd rfl hne
    · rcases set_cases hv with ⟨e, _⟩ | ⟨_, hv⟩
      · exact absurd e hne
      · have h0 := ca_set_other (cs := cs) (i := j) (j := i) (c := 0) (.int .i64 x.f0) (by omega) hne
        unfold putNode
        rw [ca_set_other _ (by omega) hne, ca_set_other _ (by omega) hne, ca_set_other _ (by omega) hne]
        rw [Nat.add_zero] at h0
        rw [h0]
        exact h.ce i y v hy hv
  · intro i y v hy hv
    rcases set_cases hy with ⟨rfl, rfl, _⟩ | ⟨hne, hy⟩
    · rcases set_cases hv with ⟨_, rfl, _⟩ | ⟨hne, _⟩
      · rw [hx]; exact Kd.R_nil _ _ _ _ _
      · exact absurd rfl hne
    · rcases set_cases hv with ⟨e, _⟩ | ⟨_, hv⟩
      · exact absurd e hne
      · exact TB.R_cell (TB.R_cell (TB.R_cell (TB.R_cell (h.ow i y v hy hv) _ _) _ _) _ _) _ _
  · intro p q v1 v2 k h1 h2 k1 k2
    rcases set_cases h1 with ⟨e1, e2, _⟩ | ⟨n1, h1⟩ <;> rcases set_cases h2 with ⟨e3, e4, _⟩ | ⟨n2, h2⟩
    · omega
    · subst e2; simp [Value.ownBlock] at k1
    · subst e4; simp [Value.ownBlock] at k2
    · exact h.ap p q v1 v2 k h1 h2 k1 k2
theorem TB.S {W : World} {base g : Nat} {cs us : List Value} {T : List S45} (h : TB W base g cs us T) (hm : T.length ≤ 9223372036854775807) :
    Kd.S k45 45 W base (fun _ => True) (.slice (some ⟨g, 0, none⟩) T.length T.length) T := by
  classical
  obtain ⟨f, hf⟩ : ∃ f : Nat → Nat, ∀ j u k, us[j]? = some u → u.ownBlock = some k → f k = j := by
    refine ⟨fun k => if h : ∃ (j : Nat) (u : Value), us[j]? = some u ∧ u.ownBlock = some k then h.choose else 0, fun j u k hu hk => ?_⟩
    have hex : ∃ (j : Nat) (u : Value), us[j]? = some u ∧ u.ownBlock = some k := ⟨j, u, hu, hk⟩
    simp only [dif_pos hex]
    obtain ⟨u2, h1, h2⟩ := hex.choose_spec
    exact h.ap _ _ u2 u k h1 hu h2 hk
  refine ⟨f, fun _ _ => trivial, cs, ⟨by rw [List.length_zipIdx]; exact h.len, .inr ⟨g, T.length, cs.toArray, by rw [List.length_zipIdx], h.hb, h.blk, by rw [List.length_zipIdx]; exact Nat.le_refl _, by simpa [maxLen] using hm, show cs.toArray.size = T.length * 4 by simpa using h.len, ?_⟩⟩, by rw [List.length_zipIdx]; exact h.len, fun j x hj => ?_⟩
  · rw [List.length_zipIdx]
    show List.take (T.length * 4) cs.toArray.toList = cs
    rw [List.take_of_length_le (by have h1 := h.len; simp; omega)]
  · rw [List.getElem?_zipIdx] at hj
    obtain ⟨y, hy, e⟩ := Option.map_eq_some_iff.1 hj
    subst e
    have hjl := (List.getElem?_eq_some_iff.1 hy).1
    have hu : us[j]? = some (us[j]'(by rw [h.ul]; exact hjl)) := List.getElem?_eq_getElem _
    have hc := h.ce j y _ hy hu
    show k45.M W base _ y (ca cs j)
    rw [hc]
    have hR := h.ow j y _ hy hu
    refine k45_mkM W base _ y (Kd.R_of_own (Kd.own_of_R hR) (fun k hk => ?_))
    refine ⟨⟨trivial, fun e => hR.1 k hk (by simpa [Value.ownBlock] using e)⟩, ?_⟩
    have := hf j _ k hu hk
    simpa using this
set_option maxRecDepth 100000 in
theorem direct_new2 (n i : Nat) (hn : n = 2 ∨ n = 4 ∨ n = 8) (hi : i < n) (w : World) (HT : Aside0 (TabG w)) : Calls Tryd.prog 31 #[.int .i64 (2 * (i : Int)), .int .i64 (n : Int)] w fun e w' => ∃ A c, e = .returned (.slice A (dirL n i).length c) ∧ (dirL n i).length ≤ c ∧ Kd.C (Kd.int .i64) w' A (dirL n i).length ((dirL n i).map (fun (x : Nat) => (x : Int))) ∧ (∀ ad, A = some ad → w.heap.size ≤ ad.block ∧ ad.block < w'.heap.size) ∧ Below w.heap.size w w' := by
  have HU := Aside0.mk (up_at n i (by omega) hi)
  have hl : 1 ≤ (dirL n i).length := by unfold dirL; rcases hn with rfl | rfl | rfl <;> simp
  have hl3 := dirL_len n i
  clear hn
  generalize hd : (dirL n i).map (fun (x : Nat) => (x : Int)) = ds at HU
  have hdl : ds.length = (dirL n i).length := by rw [← hd]; simp
  have HD := Aside0.mk hd
  generalize (dirL n i).length = m at hl hl3 hdl
  have HDL := Aside0.mk hdl
  clear hd hdl
  go_enter Tryd.func31, Tryd.ntmps31
  go_wp2_with (go_at_call 45; refine (index_up.calls 10 _ _ _ _ HT.out HU.out).mono ?_; rintro e w1 ⟨v0, rfl, ho, hb⟩; obtain ⟨gv, cv, rfl, hbase, hgl, -⟩ := Kd.R_form ho (by simp); obtain ⟨-, hlc, hC⟩ := Kd.R_reads' ho; simp only [List.length_cons, HDL.out] at hlc hC ⊢; have HB := Aside0.mk hb; have HC := Aside0.mk hC; have HBS := Aside0.mk (And.intro hbase hgl); clear ho hb hC hbase hgl)
  refine bodyPost_ret (v := .slice (some ⟨gv, 0 + 1, none⟩) m m) (by simp [results, Tryd.results31, go_sem]) rfl ⟨_, m, rfl, Nat.le_refl _, ?_, (fun ad e => by injection e with e; subst e; exact HBS.out), HB.out⟩
  have h := HC.out
  rw [← HDL.out] at h ⊢
  exact C_tail h (by have := HDL.out; omega)
theorem direct_new (n i : Nat) (hn : n = 1 ∨ n = 2 ∨ n = 4 ∨ n = 8) (hi : i < n) (w : World) (HT : Aside0 (TabG w)) : Calls Tryd.prog 31 #[.int .i64 (2 * (i : Int)), .int .i64 (n : Int)] w fun e w' => ∃ A c, e = .returned (.slice A (dirL n i).length c) ∧ (dirL n i).length ≤ c ∧ Kd.C (Kd.int .i64) w' A (dirL n i).length ((dirL n i).map (fun (x : Nat) => (x : Int))) ∧ (∀ ad, A = some ad → w.heap.size ≤ ad.block ∧ ad.block < w'.heap.size) ∧ Below w.heap.size w w' := by
  rcases hn with rfl | hn
  · obtain rfl : i = 0 := by omega
    refine (direct_one w HT).mono ?_
    rintro e w' ⟨rfl, hb⟩
    exact ⟨none, 0, rfl, Nat.le_refl _, Kd.C_nil _ _, (fun ad e => by cases e), hb⟩
  · exact direct_new2 n i hn hi w HT
structure AddB (A0 : Option Addr) (n c0 : Nat) (m ep pub : Int) (w wr : World) : Prop where
  b0 : wr.heap[w.heap.size]? = some (.cells #[.slice A0 n c0] 24 (0, 0))
  b1 : wr.heap[w.heap.size + 1]? = some (.cells #[.int .i64 m, .int .i64 ep, .int .i64 pub] 26 (0, 0))
  b2 : wr.heap[w.heap.size + 1 + 1]? = some (.cells #[.slice none 0 0] 24 (0, 0))
  bel : Below w.heap.size w wr
  sz : w.heap.size + 1 + 1 + 1 ≤ wr.heap.size
theorem AddB.start {A0 : Option Addr} {n c0 : Nat} {m ep pub : Int} {w w1 : World}
    (hb : Below (((w.alloc (.cells #[.slice A0 n c0] 24)).alloc (.cells #[.int .i64 m, .int .i64 ep, .int .i64 pub] 26)).alloc (.cells #[.slice none 0 0] 24)).heap.size (((w.alloc (.cells #[.slice A0 n c0] 24)).alloc (.cells #[.int .i64 m, .int .i64 ep, .int .i64 pub] 26)).alloc (.cells #[.slice none 0 0] 24)) w1) : AddB A0 n c0 m ep pub w w1 := by
  refine ⟨?_, ?_, ?_, below_box (below_box (below_box hb)), by have := hb.size; simpa using this⟩
  · have h := blk_below (blk_below (blk_below (heap_alloc_new w (.cells #[.slice A0 n c0] 24)) (below_alloc (Below.refl _ _) (.cells #[.int .i64 m, .int .i64 ep, .int .i64 pub] 26))) (below_alloc (Below.refl _ _) (.cells #[.slice none 0 0] 24))) hb
    exact h
  · have h := blk_below (blk_below (heap_alloc_new (w.alloc (.cells #[.slice A0 n c0] 24)) (.cells #[.int .i64 m, .int .i64 ep, .int .i64 pub] 26)) (below_alloc (Below.refl _ _) (.cells #[.slice none 0 0] 24))) hb
    simpa using h
  · have h := blk_below (heap_alloc_new ((w.alloc (.cells #[.slice A0 n c0] 24)).alloc (.cells #[.int .i64 m, .int .i64 ep, .int .i64 pub] 26)) (.cells #[.slice none 0 0] 24)) hb
    simpa using h
theorem AddB.below {A0 : Option Addr} {n c0 : Nat} {m ep pub : Int} {w w1 w2 : World} (h : AddB A0 n c0 m ep pub w w1) (hb : Below w1.heap.size w1 w2) : AddB A0 n c0 m ep pub w w2 :=
  ⟨blk_below h.b0 hb, blk_below h.b1 hb, blk_below h.b2 hb, h.bel.trans (hb.mono h.bel.size), Nat.le_trans h.sz hb.size⟩
theorem AddB.cells {A0 : Option Addr} {n c0 : Nat} {m ep pub : Int} {w w1 : World} (h : AddB A0 n c0 m ep pub w w1) :
    w1.cell? ⟨w.heap.size, 0, none⟩ = some (.slice A0 n c0) ∧ w1.cell? ⟨w.heap.size + 1, 0, none⟩ = some (.int .i64 m) ∧ w1.cell? ⟨w.heap.size + 1, 1, none⟩ = some (.int .i64 ep) ∧ w1.cell? ⟨w.heap.size + 1, 2, none⟩ = some (.int .i64 pub) ∧ w1.cell? ⟨w.heap.size + 1 + 1, 0, none⟩ = some (.slice none 0 0) ∧ w1.frozen? ⟨w.heap.size + 1 + 1, 0, none⟩ = false :=
  ⟨blk_cell h.b0 0, blk_cell h.b1 0, blk_cell h.b1 1, blk_cell h.b1 2, blk_cell h.b2 0, blk_frozen h.b2 0⟩
theorem AddB.res {A0 : Option Addr} {n c0 : Nat} {m ep pub : Int} {w w1 : World} (h : AddB A0 n c0 m ep pub w w1) (v : Value) : (w1.setCell ⟨w.heap.size + 1 + 1, 0, none⟩ v).cell? ⟨w.heap.size + 1 + 1, 0, none⟩ = some v ∧ Below w.heap.size w (w1.setCell ⟨w.heap.size + 1 + 1, 0, none⟩ v) :=
  ⟨by rw [blk_cell (blk_set h.b2 0 v) 0]; rfl, Below.setCell h.bel (by show w.heap.size ≤ w.heap.size + 1 + 1; omega) _⟩
def AddErr (w : World) (x : Int) (e : Ending) (w' : World) : Prop := e = .returned (.tuple #[.agg #[.slice none 0 0], .int .i64 0, .int .i64 x]) ∧ Below w.heap.size w w'
set_option maxRecDepth 100000 in
theorem add_odd (A0 : Option Addr) (c0 : Nat) (t : List S45) (m ep pub : Int) (w : World) (HR : Aside0 (Kd.C k45 w A0 t.length t)) (HC : Aside0 (t.length ≤ c0)) (HT : Aside0 (TabG w)) (CK : Aside0 (tree_Check.f t = some 1)) :
    Calls Tryd.prog 13 #[.agg #[.slice A0 t.length c0], .agg #[.int .i64 m, .int .i64 ep, .int .i64 pub]] w (AddErr w 1) := by
  have hu24 := Tryd.underlying24
  have hu26 := Tryd.underlying26
  go_enter Tryd.func13, Tryd.ntmps13
  go_wp2_with (go_at_call 10; refine (tree_Check.calls A0 c0 t _ _ (Kd.C_alloc (Kd.C_alloc (Kd.C_alloc HR.out _) _) _) HC.out (((HT.out.alloc _).alloc _).alloc _) CK.out).mono ?_; rintro e w1 ⟨rfl, hb⟩; have AB := Aside0.mk (AddB.start hb); obtain ⟨x0, x1, x2, x3, x4, x5⟩ := AB.out.cells; clear hb)
  have hq := (AB.out.res (.slice none 0 0)).1
  exact bodyPost_ret (v := .tuple #[.agg #[.slice none 0 0], .int .i64 0, .int .i64 1]) (by simp [results, Tryd.results13, go_sem, hq]) rfl ⟨rfl, (AB.out.res _).2⟩
theorem add_bad (A0 : Option Addr) (c0 : Nat) (t : List S45) (m ep pub : Int) (w : World) (HR : Aside0 (Kd.C k45 w A0 t.length t)) (HC : Aside0 (t.length ≤ c0)) (HT : Aside0 (TabG w)) (CK : Aside0 (tree_Check.f t = some 0)) (hbad : m < 0 ∨ ep < 0 ∨ pub < 1) :
    Calls Tryd.prog 13 #[.agg #[.slice A0 t.length c0], .agg #[.int .i64 m, .int .i64 ep, .int .i64 pub]] w (AddErr w 1) := by
  have hu24 := Tryd.underlying24
  have hu26 := Tryd.underlying26
  by_cases h1 : m < 0
  · have d1 : decide (m < 0) = true := decide_eq_true h1
    clear hbad
    go_enter Tryd.func13, Tryd.ntmps13
    go_wp2_with (go_at_call 10; refine (tree_Check.calls A0 c0 t _ _ (Kd.C_alloc (Kd.C_alloc (Kd.C_alloc HR.out _) _) _) HC.out (((HT.out.alloc _).alloc _).alloc _) CK.out).mono ?_; rintro e w1 ⟨rfl, hb⟩; have AB := Aside0.mk (AddB.start hb); obtain ⟨x0, x1, x2, x3, x4, x5⟩ := AB.out.cells; clear hb)
    have hq := (AB.out.res (.slice none 0 0)).1
    exact bodyPost_ret (v := .tuple #[.agg #[.slice none 0 0], .int .i64 0, .int .i64 1]) (by simp [results, Tryd.results13, go_sem, hq]) rfl ⟨rfl, (AB.out.res _).2⟩
  · have d1 : decide (m < 0) = false := decide_eq_false h1
    by_cases h2 : ep < 0
    · have d2 : decide (ep < 0) = true := decide_eq_true h2
      clear hbad
      go_enter Tryd.func13, Tryd.ntmps13
      go_wp2_with (go_at_call 10; refine (tree_Check.calls A0 c0 t _ _ (Kd.C_alloc (Kd.C_alloc (Kd.C_alloc HR.out _) _) _) HC.out (((HT.out.alloc _).alloc _).alloc _) CK.out).mono ?_; rintro e w1 ⟨rfl, hb⟩; have AB := Aside0.mk (AddB.start hb); obtain ⟨x0, x1, x2, x3, x4, x5⟩ := AB.out.cells; clear hb)
      have hq := (AB.out.res (.slice none 0 0)).1
      exact bodyPost_ret (v := .tuple #[.agg #[.slice none 0 0], .int .i64 0, .int .i64 1]) (by simp [results, Tryd.results13, go_sem, hq]) rfl ⟨rfl, (AB.out.res _).2⟩
    · have d2 : decide (ep < 0) = false := decide_eq_false h2
      have d3 : decide (pub < 1) = true := decide_eq_true (by omega)
      clear hbad
      go_enter Tryd.func13, Tryd.ntmps13
      go_wp2_with (go_at_call 10; refine (tree_Check.calls A0 c0 t _ _ (Kd.C_alloc (Kd.C_alloc (Kd.C_alloc HR.out _) _) _) HC.out (((HT.out.alloc _).alloc _).alloc _) CK.out).mono ?_; rintro e w1 ⟨rfl, hb⟩; have AB := Aside0.mk (AddB.start hb); obtain ⟨x0, x1, x2, x3, x4, x5⟩ := AB.out.cells; clear hb)
      have hq := (AB.out.res (.slice none 0 0)).1
      exact bodyPost_ret (v := .tuple #[.agg #[.slice none 0 0], .int .i64 0, .int .i64 1]) (by simp [results, Tryd.results13, go_sem, hq]) rfl ⟨rfl, (AB.out.res _).2⟩
theorem add_twice (A0 : Option Addr) (c0 : Nat) (t : List S45) (m ep pub r : Int) (w : World) (HR : Aside0 (Kd.C k45 w A0 t.length t)) (HC : Aside0 (t.length ≤ c0)) (HT : Aside0 (TabG w)) (CK : Aside0 (tree_Check.f t = some 0)) (h1 : 0 ≤ m) (h2 : 0 ≤ ep) (h3 : 1 ≤ pub) (FD : Aside0 (tree_Find.f 10 t m = some r)) (hr : 0 ≤ r) :
    Calls Tryd.prog 13 #[.agg #[.slice A0 t.length c0], .agg #[.int .i64 m, .int .i64 ep, .int .i64 pub]] w (AddErr w 13) := by
  have hu24 := Tryd.underlying24
  have hu26 := Tryd.underlying26
  have d1 : decide (m < 0) = false := decide_eq_false (by omega)
  have d2 : decide (ep < 0) = false := decide_eq_false (by omega)
  have d3 : decide (pub < 1) = false := decide_eq_false (by omega)
  have d4 : decide (0 ≤ r) = true := decide_eq_true hr
  go_enter Tryd.func13, Tryd.ntmps13
  go_wp2_with (first | (go_at_call 10; refine (tree_Check.calls A0 c0 t _ _ (Kd.C_alloc (Kd.C_alloc (Kd.C_alloc HR.out _) _) _) HC.out (((HT.out.alloc _).alloc _).alloc _) CK.out).mono ?_; rintro e w1 ⟨rfl, hb⟩; have AB := Aside0.mk (AddB.start hb); obtain ⟨x0, x1, x2, x3, x4, x5⟩ := AB.out.cells; clear hb) | (go_at_call 15; refine (tree_Find.calls 10 A0 c0 t _ _ _ (Kd.C_below HR.out AB.out.bel) HC.out (TabG.below HT.out AB.out.bel) FD.out).mono ?_; rintro e w2 ⟨rfl, hb⟩; have AB2 := Aside0.mk (AB.out.below hb); obtain ⟨y0, y1, y2, y3, y4, y5⟩ := AB2.out.cells; clear hb))
  have hq := (AB2.out.res (.slice none 0 0)).1
  exact bodyPost_ret (v := .tuple #[.agg #[.slice none 0 0], .int .i64 0, .int .i64 13]) (by simp [results, Tryd.results13, go_sem, hq]) rfl ⟨rfl, (AB2.out.res _).2⟩
def insN (a : Nat) (x : S45) : S45 := if 0 < x.f0 then { x with f3 := insL x.f3 (posN x.f3 (a : Int)) (a : Int) } else x
def noteL (T : List S45) (a : Nat) : List Nat → List S45
  | [] => T
  | x :: xs => noteL (T.set x (insN a (nodeN T x))) a xs
def newN (m ep pub : Int) : S45 := ⟨pub, m, ep, []⟩
def addT (t : List S45) (a n : Nat) (nd : S45) : List S45 := noteL ((t ++ List.replicate (2 * n - 1 - t.length) z45).set (2 * a) nd) a (dirL n a)
theorem TB.lt {W : World} {base g : Nat} {cs us : List Value} {T : List S45} (h : TB W base g cs us T) : g < W.heap.size := blk_lt h.blk
theorem AddB.grown {A0 : Option Addr} {n c0 : Nat} {m ep pub : Int} {w w1 w2 : World} {r : Option Nat} (h : AddB A0 n c0 m ep pub w w1) (hg : w1.grownBy w2 r) (hr : ∀ k, r = some k → w.heap.size + 1 + 1 + 1 ≤ k) : AddB A0 n c0 m ep pub w w2 := by
  have hs := h.sz
  have hk : ∀ k, k < w.heap.size + 1 + 1 + 1 → w2.heap[k]? = w1.heap[k]? := fun k hk => hg.block k (by omega) (fun e => by have := hr k e.symm; omega)
  refine ⟨(hk _ (by omega)).trans h.b0, (hk _ (by omega)).trans h.b1, (hk _ (by omega)).trans h.b2, pw_below_grown h.bel r h.bel.size hg (fun k e => by have := hr k e; omega), Nat.le_trans hs hg.size⟩
theorem AddB.set {A0 : Option Addr} {n c0 : Nat} {m ep pub : Int} {w w1 : World} {g : Nat} (h : AddB A0 n c0 m ep pub w w1) (hg : w.heap.size + 1 + 1 + 1 ≤ g) (i : Nat) (v : Value) : AddB A0 n c0 m ep pub w (w1.setCell ⟨g, i, none⟩ v) :=
  ⟨blk_far h.b0 (show w.heap.size ≠ g by omega) _, blk_far h.b1 (show w.heap.size + 1 ≠ g by omega) _, blk_far h.b2 (show w.heap.size + 1 + 1 ≠ g by omega) _, Below.setCell h.bel (by show w.heap.size ≤ g; omega) _, by simpa using h.sz⟩
structure AddL (A0 : Option Addr) (n c0 : Nat) (m ep pub : Int) (w : World) (B0 g b9 M : Nat) (Ad : Option Addr) (dl : List Nat) (a : Nat) (T : List S45) (wr : World) : Prop where
  tb : ∃ cs us, TB wr B0 g cs us T ∧ ∀ (i : Nat) (u : Value), us[i]? = some u → ∀ ad, Ad = some ad → u.ownBlock ≠ some ad.block
  bx : wr.heap[b9]? = some (.cells #[.slice (some ⟨g, 0, none⟩) M M] 24 (0, 0))
  ab : AddB A0 n c0 m ep pub w wr
  dc : ∀ q, q < dl.length → ∃ ad, Ad = some ad ∧ wr.cell? (ad.add q) = some (.int .i64 ((dl.getD q 0 : Nat) : Int))
  ga : ∀ ad, Ad = some ad → g ≠ ad.block ∧ ad.block < wr.heap.size
  gb : g ≠ b9
  lo : w.heap.size + 1 + 1 + 1 ≤ B0
theorem insN_yes {a : Nat} {x : S45} (h : 0 < x.f0) : insN a x = { x with f3 := insL x.f3 (posN x.f3 (a : Int)) (a : Int) } := if_pos h
theorem insN_no {a : Nat} {x : S45} (h : ¬ 0 < x.f0) : insN a x = x := if_neg h
theorem set_same {α : Type} {l : List α} {i : Nat} {x : α} (h : l[i]? = some x) : l.set i x = l := by
  apply List.ext_getElem?
  intro j
  by_cases e : j = i
  · subst e
    rw [List.getElem?_set_self (List.getElem?_eq_some_iff.1 h).1, h]
  · rw [List.getElem?_set_ne (fun e2 => e e2.symm)]
theorem nodeN_get {T : List S45} {x : Nat} (h : x < T.length) : T[x]? = some (nodeN T x) := by
  unfold nodeN
  rw [List.getD_eq_getElem?_getD, List.getElem?_eq_getElem h]
  rfl
theorem noteL_snoc (a : Nat) (x : Nat) : ∀ (xs : List Nat) (T : List S45), noteL T a (xs ++ [x]) = (noteL T a xs).set x (insN a (nodeN (noteL T a xs) x)) := by
  intro xs
  induction xs with
  | nil => intro T; rfl
  | cons y ys ih => intro T; exact ih _
theorem noteL_len (a : Nat) : ∀ (xs : List Nat) (T : List S45), (noteL T a xs).length = T.length := by
  intro xs
  induction xs with
  | nil => intro T; rfl
  | cons y ys ih => intro T; rw [noteL, ih, List.length_set]
theorem noteL_take {a j : Nat} {dl : List Nat} {T : List S45} (h : j < dl.length) : noteL T a (dl.take (j + 1)) = (noteL T a (dl.take j)).set (dl.getD j 0) (insN a (nodeN (noteL T a (dl.take j)) (dl.getD j 0))) := by
  rw [List.take_succ_eq_append_getElem h, noteL_snoc, List.getD_eq_getElem?_getD, List.getElem?_eq_getElem h]
  rfl
theorem AddL.next {A0 : Option Addr} {n c0 : Nat} {m ep pub : Int} {w : World} {B0 g b9 M : Nat} {Ad : Option Addr} {dl : List Nat} {a : Nat} {T : List S45} {wr : World} {q0 : Nat} {o : Obj} {w2 : World} {cs us : List Value} {x : Nat} {u u' : Value} {l' : List Int}
    (h : AddL A0 n c0 m ep pub w B0 g b9 M Ad dl a T wr) (ht : TB wr B0 g cs us T) (hu : us[x]? = some u) (hx : x < T.length) (hax : ∀ (i : Nat) (u : Value), us[i]? = some u → ∀ ad, Ad = some ad → u.ownBlock ≠ some ad.block)
    (hg : ((wr.drewN q0).alloc o).grownBy w2 u.ownBlock) (hR : Kd.R (Kd.int .i64) 3 w2 B0 (fun q => q ≠ g ∨ ((wr.drewN q0).alloc o).heap.size ≤ q) u' l') (hat : u'.ownBlock = u.ownBlock ∨ ∃ b, u'.ownBlock = some b ∧ ((wr.drewN q0).alloc o).heap.size ≤ b) :
    AddL A0 n c0 m ep pub w B0 g b9 M Ad dl a (T.set x { nodeN T x with f3 := l' }) (w2.setCell ⟨g, x * 4 + 3, none⟩ u') := by
  have hsz : wr.heap.size ≤ ((wr.drewN q0).alloc o).heap.size := by simp
  have hgw : wr.grownBy w2 u.ownBlock := grow_then (grow_then (grow_drew q0 u.ownBlock) (grow_alloc o u.ownBlock) (.inl rfl)) hg (.inl rfl)
  have hB0 : ∀ k, u.ownBlock = some k → B0 ≤ k := fun k hk => (ht.own hu k hk).2.1
  have hgB : B0 ≤ g := ht.hb
  have hat' : u'.ownBlock = u.ownBlock ∨ ∃ b, u'.ownBlock = some b ∧ wr.heap.size ≤ b := hat.imp_right (fun ⟨b, e, hb⟩ => ⟨b, e, by omega⟩)
  have htb := ht.put (nodeN_get hx) hu hgw (Kd.R_mono hR (fun q hq => hq.imp_right (fun hq => by omega))) hat'
  have hlo := h.lo
  refine ⟨⟨_, _, htb, ?_⟩, ?_, ?_, ?_, ?_, h.gb, h.lo⟩
  · intro i v hv ad had
    rcases set_cases hv with ⟨_, rfl, _⟩ | ⟨_, hv⟩
    · rcases hat' with e | ⟨b, e, hb⟩
      · rw [e]; exact hax x u hu ad had
      · rw [e]
        intro e2
        injection e2 with e2
        have := (h.ga ad had).2
        omega
    · exact hax i v hv ad had
  · refine blk_far ?_ (show b9 ≠ g from fun e => h.gb e.symm) _
    have hbl := blk_lt h.bx
    refine (hgw.block b9 hbl (fun e => ?_)).trans h.bx
    have hxT := ht.ow x _ u (nodeN_get hx) hu
    exact Kd.R_ne hxT h.bx (by decide) e
  · exact (h.ab.grown hgw (fun k hk => by have := hB0 k hk; omega)).set (by omega) _ _
  · intro q hq
    obtain ⟨ad, had, hc⟩ := h.dc q hq
    refine ⟨ad, had, ?_⟩
    have hab : (ad.add q).block = ad.block := add_block ad q
    have h1 : w2.cell? (ad.add q) = some (.int .i64 ((dl.getD q 0 : Nat) : Int)) := by
      rw [cell_grown hgw (by rw [hab]; exact (h.ga ad had).2) (by rw [hab]; exact fun e => hax x u hu ad had e.symm)]
      exact hc
    rw [← h1]
    unfold World.cell?
    rw [Below.heap_setCell w2 ⟨g, x * 4 + 3, none⟩ u' (ad.add q).block (by rw [hab]; exact fun e => (h.ga ad had).1 e.symm)]
  · intro ad had
    have := h.ga ad had
    exact ⟨this.1, by have h2 := hgw.size; simp; omega⟩
theorem below_node {w w4 : World} (h : Below w.heap.size w w4) {g : Nat} (hg : w.heap.size ≤ g) (i : Nat) (v0 v1 v2 v3 : Value) (o : Obj) : Below w.heap.size w (((((w4.setCell ⟨g, i, none⟩ v0).setCell ⟨g, i + 1, none⟩ v1).setCell ⟨g, i + 2, none⟩ v2).setCell ⟨g, i + 3, none⟩ v3).alloc o) :=
  below_alloc (Below.setCell (Below.setCell (Below.setCell (Below.setCell h hg _) hg _) hg _) hg _) o
theorem AddL.start {A0 : Option Addr} {n c0 : Nat} {m ep pub : Int} {w w4 w6 : World} {B0 g M a : Nat} {Ad : Option Addr} {dl : List Nat} {cs us : List Value} {T1 : List S45}
    (h : AddB A0 n c0 m ep pub w w4) (ht : TB w4 B0 g cs us T1) (hM : T1.length = M) (hk : 2 * a < M) (hlo : w.heap.size + 1 + 1 + 1 ≤ B0)
    (hC : Kd.C (Kd.int .i64) w6 Ad dl.length (dl.map (fun (x : Nat) => (x : Int))))
    (hA : ∀ ad, Ad = some ad → (((((w4.setCell ⟨g, 2 * a * 4, none⟩ (.int .i64 pub)).setCell ⟨g, 2 * a * 4 + 1, none⟩ (.int .i64 m)).setCell ⟨g, 2 * a * 4 + 2, none⟩ (.int .i64 ep)).setCell ⟨g, 2 * a * 4 + 3, none⟩ (.slice none 0 0)).alloc (.cells #[.slice (some ⟨g, 0, none⟩) M M] 24)).heap.size ≤ ad.block ∧ ad.block < w6.heap.size)
    (hb : Below (((((w4.setCell ⟨g, 2 * a * 4, none⟩ (.int .i64 pub)).setCell ⟨g, 2 * a * 4 + 1, none⟩ (.int .i64 m)).setCell ⟨g, 2 * a * 4 + 2, none⟩ (.int .i64 ep)).setCell ⟨g, 2 * a * 4 + 3, none⟩ (.slice none 0 0)).alloc (.cells #[.slice (some ⟨g, 0, none⟩) M M] 24)).heap.size (((((w4.setCell ⟨g, 2 * a * 4, none⟩ (.int .i64 pub)).setCell ⟨g, 2 * a * 4 + 1, none⟩ (.int .i64 m)).setCell ⟨g, 2 * a * 4 + 2, none⟩ (.int .i64 ep)).setCell ⟨g, 2 * a * 4 + 3, none⟩ (.slice none 0 0)).alloc (.cells #[.slice (some ⟨g, 0, none⟩) M M] 24)) w6) :
    AddL A0 n c0 m ep pub w B0 g w4.heap.size M Ad dl a (T1.set (2 * a) (newN m ep pub)) w6 := by
  have hgl := ht.lt
  have h5 := TB.node ht (j := 2 * a) (by omega) (newN m ep pub) rfl
  have h6 : TB w6 B0 g _ _ _ := TB.below (TB.below h5 (below_alloc (Below.refl _ _) (.cells #[.slice (some ⟨g, 0, none⟩) M M] 24))) hb
  have hgB := ht.hb
  refine ⟨⟨_, _, h6, ?_⟩, ?_, ?_, ?_, ?_, by omega, hlo⟩
  · intro i u hu ad had e
    have h7 := (TB.own h5 hu _ e).2.2
    have h8 := (hA ad had).1
    simp at h7 h8
    omega
  · have := heap_alloc_new ((((w4.setCell ⟨g, 2 * a * 4, none⟩ (.int .i64 pub)).setCell ⟨g, 2 * a * 4 + 1, none⟩ (.int .i64 m)).setCell ⟨g, 2 * a * 4 + 2, none⟩ (.int .i64 ep)).setCell ⟨g, 2 * a * 4 + 3, none⟩ (.slice none 0 0)) (.cells #[.slice (some ⟨g, 0, none⟩) M M] 24)
    have h9 := blk_below this hb
    simpa using h9
  · exact (((((h.set (by omega) _ _).set (by omega) _ _).set (by omega) _ _).set (by omega) _ _).below (below_alloc (Below.refl _ _) _)).below hb
  · intro q hq
    obtain ⟨ad, had, hc⟩ := Kd.at_int hC (q : Int) (by omega) (by omega)
    refine ⟨ad, had, ?_⟩
    rw [Int.toNat_natCast] at hc
    rw [hc]
    unfold rd
    rw [Int.toNat_natCast, List.getD_eq_getElem?_getD, List.getD_eq_getElem?_getD, List.getElem?_map, List.getElem?_eq_getElem hq]
    rfl
  · intro ad had
    have h8 := hA ad had
    refine ⟨?_, h8.2⟩
    have := h8.1
    simp at this
    omega
theorem un_bound {t : List S45} (h : okB t = true) : ∀ x ∈ t, x.f3.length * 8 ≤ 140737488355328 := by
  intro x hx
  have hs := small_of_ok h (List.ne_nil_of_mem hx)
  obtain ⟨i, hi, rfl⟩ := List.getElem_of_mem hx
  have := (hs.un i).1
  unfold nodeN at this
  rw [List.getD_eq_getElem?_getD, List.getElem?_eq_getElem hi] at this
  have h2 : (t[i]).f3.length ≤ 8 := this
  omega
theorem nodeN_mem {T : List S45} {x : Nat} : nodeN T x = z45 ∨ nodeN T x ∈ T := by
  unfold nodeN
  rw [List.getD_eq_getElem?_getD]
  cases h : T[x]? with
  | none => exact .inl rfl
  | some y => exact .inr (List.mem_of_getElem? h)
def Sorted0 (T : List S45) : Prop := ∀ x, (nodeN T x).f3.Pairwise (· < ·) ∧ (nodeN T x).f3.length ≤ 8
theorem sorted_ok {t : List S45} (h : okB t = true) : Sorted0 t := by
  intro x
  by_cases hx : x < t.length
  · by_cases hu : (nodeN t x).f3 = []
    · rw [hu]; simp
    · have h2 := (un_at h hx hu).2
      exact ⟨(rising_pair _ _ h2).1, ((small_of_ok h (by intro e; subst e; simp at hx)).un x).1⟩
  · rw [nodeN_out (by omega)]
    exact ⟨List.Pairwise.nil, by simp [z45]⟩
theorem nodeN_set {T : List S45} {i x : Nat} {y : S45} : nodeN (T.set i y) x = if x = i ∧ i < T.length then y else nodeN T x := by
  unfold nodeN
  rw [List.getD_eq_getElem?_getD, List.getD_eq_getElem?_getD]
  by_cases e : x = i
  · subst e
    by_cases hl : x < T.length
    · rw [if_pos ⟨rfl, hl⟩, List.getElem?_set_self hl]; rfl
    · rw [if_neg (fun h => hl h.2), List.getElem?_eq_none (by simp; omega), List.getElem?_eq_none (by omega)]
  · rw [if_neg (fun h => e h.1), List.getElem?_set_ne (fun h => e h.symm)]
theorem nodeN_more {t : List S45} {n x : Nat} : nodeN (t ++ List.replicate n z45) x = nodeN t x := by
  unfold nodeN
  rw [List.getD_eq_getElem?_getD, List.getD_eq_getElem?_getD]
  by_cases h : x < t.length
  · rw [List.getElem?_append_left h]
  · rw [List.getElem?_append_right (by omega), List.getElem?_eq_none (l := t) (by omega), List.getElem?_replicate]
    split <;> rfl
theorem sorted_start {t : List S45} (h : okB t = true) (n a : Nat) (nd : S45) (hnd : nd.f3 = []) : Sorted0 ((t ++ List.replicate n z45).set a nd) := by
  intro x
  rw [nodeN_set]
  split
  · rw [hnd]; simp
  · rw [nodeN_more]; exact sorted_ok h x
theorem noteL_other {a x : Nat} : ∀ (xs : List Nat) (T : List S45), x ∉ xs → nodeN (noteL T a xs) x = nodeN T x := by
  intro xs
  induction xs with
  | nil => intro T _; rfl
  | cons y ys ih =>
    intro T h
    rw [noteL, ih _ (fun h2 => h (List.mem_cons_of_mem _ h2)), nodeN_set, if_neg (fun h2 => h (by rw [h2.1]; exact List.mem_cons_self))]
theorem dirL_all : ([1, 2, 4, 8].all fun n => (List.range n).all fun i => decide (dirL n i).Nodup) = true := by decide +kernel
theorem dirL_nodup (n i : Nat) (hn : n = 1 ∨ n = 2 ∨ n = 4 ∨ n = 8) (hi : i < n) : (dirL n i).Nodup := by
  have h1 := List.all_eq_true.1 dirL_all n (by rcases hn with rfl | rfl | rfl | rfl <;> simp)
  exact of_decide_eq_true (List.all_eq_true.1 h1 i (List.mem_range.2 hi))
theorem nodup_fresh {l : List Nat} (h : l.Nodup) {j : Nat} (hj : j < l.length) : l.getD j 0 ∉ l.take j := by
  intro hm
  have hsplit : (l.take j ++ l.drop j).Nodup := by rw [List.take_append_drop]; exact h
  rw [List.drop_eq_getElem_cons hj] at hsplit
  rw [List.getD_eq_getElem?_getD, List.getElem?_eq_getElem hj] at hm
  exact (List.nodup_append.1 hsplit).2.2 _ hm _ List.mem_cons_self rfl
def AddPost (w : World) (r : List S45) (a : Nat) (e : Ending) (w' : World) : Prop := ∃ v0_ : Value, e = .returned (.tuple #[.agg #[v0_], .int .i64 a, .int .i64 0]) ∧ Kd.S k45 45 w' w.heap.size (fun _ => True) v0_ r ∧ Below w.heap.size w w'
set_option maxRecDepth 100000 in
set_option maxHeartbeats 2000000 in
theorem add_room (A0 : Option Addr) (c0 : Nat) (t : List S45) (m ep pub : Int) (a : Nat) (w : World) (HR : Aside0 (Kd.C k45 w A0 t.length t)) (HC : Aside0 (t.length ≤ c0)) (HT : Aside0 (TabG w)) (CK : Aside0 (tree_Check.f t = some 0)) (h1 : 0 ≤ m) (h2 : 0 ≤ ep) (h3 : 1 ≤ pub) (FD : Aside0 (tree_Find.f 10 t m = some (-1))) (HOK : Aside0 (okB t = true))
    (ha : a < lvsN t) (HA : Aside0 (∀ i, i < a → 0 < (nodeN t (2 * i)).f0)) (HB : Aside0 (¬ 0 < (nodeN t (2 * a)).f0)) :
    Calls Tryd.prog 13 #[.agg #[.slice A0 t.length c0], .agg #[.int .i64 m, .int .i64 ep, .int .i64 pub]] w (AddPost w (addT t a (lvsN t) (newN m ep pub)) a) := by
  have hu24 := Tryd.underlying24
  have hu26 := Tryd.underlying26
  have hu45 := Tryd.underlying45
  have d1 : decide (m < 0) = false := decide_eq_false (by omega)
  have d2 : decide (ep < 0) = false := decide_eq_false (by omega)
  have d3 : decide (pub < 1) = false := decide_eq_false (by omega)
  obtain ⟨hn, htl⟩ := (ok_len HOK.out).resolve_left (fun h => by omega)
  have LV := Aside0.mk (leaves_at t (by omega))
  generalize hN : lvsN t = n at *
  have hn8 : (n : Int) ≤ 8 := by omega
  have HN := Aside0.mk hn
  have HTL := Aside0.mk htl
  have HNN := Aside0.mk hN
  clear hn htl hN
  go_enter Tryd.func13, Tryd.ntmps13
  go_wp2_with (first | (go_at_call 10; refine (tree_Check.calls A0 c0 t _ _ (Kd.C_alloc (Kd.C_alloc (Kd.C_alloc HR.out _) _) _) HC.out (((HT.out.alloc _).alloc _).alloc _) CK.out).mono ?_; rintro e w1 ⟨rfl, hb⟩; have AB := Aside0.mk (AddB.start hb); obtain ⟨x0, x1, x2, x3, x4, x5⟩ := AB.out.cells; clear hb) | (go_at_call 15; refine (tree_Find.calls 10 A0 c0 t _ _ _ (Kd.C_below HR.out AB.out.bel) HC.out (TabG.below HT.out AB.out.bel) FD.out).mono ?_; rintro e w2 ⟨rfl, hb⟩; have AB2 := Aside0.mk (AB.out.below hb); clear x0 x1 x2 x3 x4 x5; obtain ⟨x0, x1, x2, x3, x4, x5⟩ := AB2.out.cells; clear hb) | (go_at_call 26; refine (tree_leaves.calls A0 c0 t _ _ (Kd.C_below HR.out AB2.out.bel) HC.out LV.out).mono ?_; rintro e w3 ⟨rfl, hb⟩; have AB3 := Aside0.mk (AB2.out.below hb); clear x0 x1 x2 x3 x4 x5; obtain ⟨x0, x1, x2, x3, x4, x5⟩ := AB3.out.cells; clear hb))
  go_loopw [8] (fun v8 wr => ∃ k : Nat, k ≤ a ∧ v8 = .int .i64 k ∧ w3 = wr) (fun v8 _ => n - (intOf v8).toNat)
  case atStart => exact ⟨0, Nat.zero_le _, rfl, rfl⟩
  case round =>
    obtain ⟨k, hk, rfl, rfl⟩ := hrel
    obtain ⟨ad, A3, c3, e3, y0, -, -, -, -, -⟩ := at_T45 (Kd.C_below HR.out AB3.out.bel) ((2 * k : Nat) : Int) (by omega) (by have := HTL.out; omega)
    rw [rd_at, Int.toNat_natCast] at y0
    cases e3
    have h2k : (2 * (k : Int)).toNat = 2 * k := by omega
    have hkl : 2 * k < t.length := by have := HTL.out; omega
    by_cases hlt : k < a
    · have hp := HA.out k hlt
      generalize (nodeN t (2 * k)).f0 = p0 at y0 hp
      have dp : decide (0 < p0) = true := decide_eq_true hp
      go_wp2
      go_roundw
      case rel => exact ⟨k + 1, by omega, by go_num, by first | rfl | trivial⟩
      case measure => simp [intOf]; omega
    · obtain rfl : k = a := by omega
      have hp := HB.out
      generalize (nodeN t (2 * k)).f0 = p0 at y0 hp
      have dp : decide (0 < p0) = false := decide_eq_false (by omega)
      have hne : ((k : Int) == (n : Int)) = false := beq_eq_false_iff_ne.2 (by omega)
      clear hp
      have hkM : 2 * k < t.length := hkl
      obtain ⟨M, hM⟩ : ∃ M, M = t.length := ⟨_, rfl⟩
      rw [← hM] at hkM
      have HMN : Aside0 (2 * n - 1 = M) := ⟨by have := HTL.out; omega⟩
      have HLM : Aside0 (t.length ≤ M) := ⟨by omega⟩
      have HUN : Aside0 (∀ x ∈ t, x.f3.length * 8 ≤ 140737488355328) := ⟨un_bound HOK.out⟩
      have HTL2 : Aside0 ((t ++ List.replicate (M - t.length) z45).length = M) := ⟨by simp; omega⟩
      have hM15 : (M : Int) ≤ 15 := by have := HTL.out; omega
      have hn1 : 1 ≤ n := by omega
      have HM2 : Aside0 (M = 2 * n - 1) := ⟨by have := HTL.out; omega⟩
      clear hM
      have HKM := Aside0.mk hkM
      go_wp2_with (first | (go_at_call 30; refine (twin_any (some ad) c0 t _ M _ ⟨Kd.C_below HR.out AB3.out.bel⟩ ⟨?tM⟩ ?t1 ?t2 ⟨?tL⟩ ⟨?tU⟩).mono ?_; (case tM => have := HMN.out; omega); (case t1 => omega); (case t2 => omega); (case tL => exact HLM.out); (case tU => exact HUN.out); rintro e w4 ⟨g, cs, us, rfl, hTB, hb⟩; have AB4 := Aside0.mk (AB3.out.below hb); have HTB := Aside0.mk hTB; obtain ⟨u0, hu0, z0, z1, z2, z3, -⟩ := hTB.cells (2 * k) (by rw [HTL2.out]; exact hkM); have f0 := blk_frozen hTB.blk (2 * k * 4); have f1 := blk_frozen hTB.blk (2 * k * 4 + 1); have f2 := blk_frozen hTB.blk (2 * k * 4 + 2); have f3 := blk_frozen hTB.blk (2 * k * 4 + 3); have HGL := Aside0.mk hTB.lt; have HGB : Aside0 (w.heap.size ≤ g) := ⟨Nat.le_trans AB3.out.bel.size hTB.hb⟩; have HLO : Aside0 (w.heap.size + 1 + 1 + 1 ≤ w3.heap.size) := ⟨AB3.out.sz⟩; have HB4 := Aside0.mk hb; have s1 : w.heap.size + 1 < w4.heap.size := (by have := AB4.out.sz; omega); have s2 : w.heap.size + 1 + 1 < w4.heap.size := (by have := AB4.out.sz; omega); have s3 := HGL.out; clear x0 x1 x2 x3 x4 x5; obtain ⟨x0, x1, x2, x3, x4, x5⟩ := AB4.out.cells; clear hb hTB hu0) | (go_at_call 31; refine (direct_new n k HN.out ?dK _ ⟨TabG.below HT.out (below_node AB4.out.bel HGB.out _ _ _ _ _ _)⟩).mono ?_; (case dK => omega); rintro e w6 ⟨Ad, cd, rfl, hcd, hC, hAb, hb⟩; have HL := Aside0.mk (AddL.start (a := k) AB4.out HTB.out HTL2.out HKM.out HLO.out hC hAb hb); have HCD := Aside0.mk hcd; clear hC hAb hb hcd))
      have hdl3 := dirL_len n k
      have HDB : Aside0 (∀ q, q < (dirL n k).length → (dirL n k).getD q 0 < M) := ⟨fun q hq => by have := (cop_at n k HN.out (by omega)).2.2.2 ((dirL n k).getD q 0) (by rw [List.getD_eq_getElem?_getD, List.getElem?_eq_getElem hq]; exact List.getElem_mem _); have := HMN.out; omega⟩
      have HDN : Aside0 ((dirL n k).Nodup) := ⟨dirL_nodup n k HN.out (by omega)⟩
      generalize hdl : dirL n k = dl at *
      have HDL := Aside0.mk hdl
      generalize hT0 : ((t ++ List.replicate (M - t.length) z45).set (2 * k) (newN m ep pub)) = T0 at HL
      have HT0 := Aside0.mk hT0
      have HT0L : Aside0 (T0.length = M) := ⟨by rw [← hT0, List.length_set]; exact HTL2.out⟩
      have HT0S : Aside0 (Sorted0 T0) := ⟨by rw [← hT0]; exact sorted_start HOK.out _ _ _ rfl⟩
      clear hdl hT0 x0 x1 x2 x3 x4 x5 z0 z1 z2 z3 f0 f1 f2 f3 s1 s2 s3 y0
      generalize hb9 : w4.heap.size = b9 at *
      have hm3 : (dl.length : Int) ≤ 3 := by omega
      go_loopw [88] (fun v88 wr => ∃ j : Nat, j ≤ dl.length ∧ v88 = .int .i64 j ∧ Aside0 (AddL (some ad) t.length c0 m ep pub w w3.heap.size g b9 M Ad dl k (noteL T0 k (dl.take j)) wr)) (fun v88 _ => dl.length - (intOf v88).toNat)
      case atStart => exact ⟨0, Nat.zero_le _, rfl, HL⟩
      case round =>
        clear HL
        obtain ⟨j, hj, rfl, HL⟩ := hrel
        obtain ⟨cs2, us2, htb, hax⟩ := HL.out.tb
        have hT : (noteL T0 k (dl.take j)).length = M := by rw [noteL_len]; exact HT0L.out
        by_cases hlt2 : j < dl.length
        · obtain ⟨ad2, rfl, hdc⟩ := HL.out.dc j hlt2
          have hxM := HDB.out j hlt2
          have HNT : Aside0 (noteL T0 k (dl.take (j + 1)) = (noteL T0 k (dl.take j)).set (dl.getD j 0) (insN k (nodeN (noteL T0 k (dl.take j)) (dl.getD j 0)))) := ⟨noteL_take hlt2⟩
          have HSO : Aside0 ((nodeN (noteL T0 k (dl.take j)) (dl.getD j 0)).f3.Pairwise (· < ·) ∧ (nodeN (noteL T0 k (dl.take j)) (dl.getD j 0)).f3.length ≤ 8) := ⟨by rw [noteL_other _ _ (nodup_fresh HDN.out hlt2)]; exact HT0S.out _⟩
          generalize hx : dl.getD j 0 = x at *
          generalize hTT : noteL T0 k (dl.take j) = T at *
          obtain ⟨u, hu, z0, z1, z2, z3, hRu⟩ := htb.cells x (by omega)
          change _ = some (Value.int .i64 (nodeN T x).f0) at z0
          change Kd.R _ _ _ _ _ u (nodeN T x).f3 at hRu
          have hbx := blk_cell HL.out.bx 0
          have hfz := blk_frozen htb.blk (x * 4 + 3)
          have hso := HSO.out
          have HNX := Aside0.mk (nodeN_get (T := T) (x := x) (by omega))
          generalize hND : nodeN T x = nd at *
          obtain ⟨p0, p1, p2, un⟩ := nd
          change wr.cell? _ = some (Value.int .i64 p0) at z0
          change Kd.R _ _ _ _ _ u un at hRu
          change un.Pairwise (· < ·) ∧ un.length ≤ 8 at hso
          obtain ⟨Au, cu, rfl, hlu, hCu⟩ := Kd.R_reads hRu
          obtain ⟨bb, hbs⟩ := bs_at hso.1 (by omega) (k : Int)
          have hlen8 : (un.length : Int) ≤ 8 := by omega
          have HP := Aside0.mk (posN_le un (k : Int))
          have HTB2 := Aside0.mk htb
          have HU := Aside0.mk hu
          have HAX := Aside0.mk hax
          have HRU := Aside0.mk hRu
          have HCU := Aside0.mk hCu
          have HLU := Aside0.mk hlu
          have HBS := Aside0.mk hbs
          have HXT := Aside0.mk (show x < T.length by omega)
          have HND := Aside0.mk hND
          have HZ3 := Aside0.mk z3
          clear htb hu hax hRu hCu hlu hbs hso z1 z2 hx hTT hND
          have hxI : ((x : Int)).toNat = x := Int.toNat_natCast x
          have hxl : (x : Int) < (M : Int) := by omega
          clear hxI
          by_cases hp : 0 < p0
          · have dp : decide (0 < p0) = true := decide_eq_true hp
            have HGU : Aside0 (some g ≠ (Value.slice Au un.length cu).ownBlock) := ⟨fun e => (HTB2.out.own HU.out g e.symm).1 rfl⟩
            have HGB8 : Aside0 (∀ o, ((wr.drewN 0).alloc o).heap[g]? = some (.cells cs2.toArray 45 (0, 0))) := ⟨fun o => ((grow_alloc o none).block g HTB2.out.lt (by simp)).trans HTB2.out.blk⟩
            have HC8 : Aside0 (cs2.toArray[x * 4 + 3]? = some (.slice Au un.length cu)) := ⟨by have h := z3; rw [blk_cell HTB2.out.blk] at h; exact h⟩
            go_wp2_with (first | (go_at_call 32; refine (slices_BinarySearch_int_int.calls 1002 Au cu un _ _ _ _ HCU.out HLU.out HBS.out).mono ?_; rintro e w7 ⟨rfl, hd⟩; obtain ⟨q0, rfl⟩ := hd.out; clear hd) | (go_at_call 33; refine (ins_at (.slice Au un.length cu) un (posN un (k : Int)) (k : Int) wr.heap.size w3.heap.size (fun q => q ≠ g) _ ?iR HP.out ?iL ?iB ?iN ?iW).mono ?_; (case iR => exact Kd.R_alloc (Kd.R_drewN HRU.out _) _); (case iL => omega); (case iB => exact heap_alloc_new (wr.drewN q0) _); (case iN => exact fun e => by have := (HTB2.out.own HU.out _ e.symm).2.2; omega); (case iW => have := HTB2.out.lt; have := HTB2.out.hb; simp; omega); rintro e w8 ⟨u8, rfl, hR8, hg8, hat8⟩; obtain ⟨A8, n8, rfl⟩ := Kd.R_slice hR8; have HNEXT := Aside0.mk (HL.out.next HTB2.out HU.out HXT.out HAX.out hg8 hR8 hat8); have hb8 := (hg8.block g (Nat.lt_of_lt_of_le HTB2.out.lt (by simp)) HGU.out).trans (HGB8.out _); have c8 := (blk_cell hb8 (x * 4 + 3)).trans HC8.out; have f8 := blk_frozen hb8 (x * 4 + 3); clear hb8 hR8 hg8 hat8))
            go_roundw
            case rel => exact ⟨j + 1, by omega, by go_num, ⟨by rw [HNT.out, insN_yes hp]; rw [HND.out] at HNEXT; exact HNEXT.out⟩⟩
            case measure => simp [intOf]; omega
          · have dp : decide (0 < p0) = false := decide_eq_false hp
            go_wp2
            go_roundw
            case rel => exact ⟨j + 1, by omega, by go_num, ⟨by rw [HNT.out, insN_no hp, set_same HNX.out]; exact HL.out⟩⟩
            case measure => simp [intOf]; omega
        · obtain rfl : j = dl.length := by omega
          have hbx := blk_cell HL.out.bx 0
          obtain ⟨x0, x1, x2, x3, x4, x5⟩ := HL.out.ab.cells
          have HTB2 := Aside0.mk htb
          clear htb
          have HT2 := Aside0.mk hT
          clear hT
          rw [List.take_length] at HTB2 HT2
          go_wp2
          have hq := (HL.out.ab.res (.slice (some ⟨g, 0, none⟩) M M)).1
          have hgw : g ≠ w.heap.size + 1 + 1 := by have := HTB2.out.hb; have := HL.out.lo; omega
          refine bodyPost_ret (v := .tuple #[.agg #[.slice (some ⟨g, 0, none⟩) M M], .int .i64 k, .int .i64 0]) (by simp [results, Tryd.results13, go_sem, hq]) rfl ⟨_, rfl, ?_, (HL.out.ab.res _).2⟩
          have hfin := (HTB2.out.set_other HL.out.ab.b2 (by decide) hgw 0 (.slice (some ⟨g, 0, none⟩) M M)).S (by rw [HT2.out]; omega)
          rw [HT2.out] at hfin
          have := Kd.S_lower hfin (show w.heap.size ≤ w3.heap.size by have := HL.out.lo; omega)
          rw [← HT0.out, ← HDL.out] at this
          unfold addT
          rw [← HM2.out]
          exact this
set_option maxRecDepth 100000 in
set_option maxHeartbeats 2000000 in
theorem add_full (A0 : Option Addr) (c0 : Nat) (t : List S45) (m ep pub : Int) (a : Nat) (w : World) (HR : Aside0 (Kd.C k45 w A0 t.length t)) (HC : Aside0 (t.length ≤ c0)) (HT : Aside0 (TabG w)) (CK : Aside0 (tree_Check.f t = some 0)) (h1 : 0 ≤ m) (h2 : 0 ≤ ep) (h3 : 1 ≤ pub) (FD : Aside0 (tree_Find.f 10 t m = some (-1))) (HOK : Aside0 (okB t = true))
    (n' : Nat) (ha : a = lvsN t) (ha8 : a < 8) (hn' : n' = max 1 (2 * a)) (HA : Aside0 (∀ i, i < a → 0 < (nodeN t (2 * i)).f0)) :
    Calls Tryd.prog 13 #[.agg #[.slice A0 t.length c0], .agg #[.int .i64 m, .int .i64 ep, .int .i64 pub]] w (AddPost w (addT t a n' (newN m ep pub)) a) := by
  have hu24 := Tryd.underlying24
  have hu26 := Tryd.underlying26
  have hu45 := Tryd.underlying45
  have d1 : decide (m < 0) = false := decide_eq_false (by omega)
  have d2 : decide (ep < 0) = false := decide_eq_false (by omega)
  have d3 : decide (pub < 1) = false := decide_eq_false (by omega)
  have hn : lvsN t = 0 ∨ lvsN t = 1 ∨ lvsN t = 2 ∨ lvsN t = 4 := by rcases ok_len HOK.out with ⟨_, h⟩ | ⟨h, _⟩ <;> omega
  have htl : t.length = 2 * lvsN t - 1 := by rcases ok_len HOK.out with ⟨h, h2⟩ | ⟨_, h⟩; rw [h2, h]; rfl; exact h
  have LV := Aside0.mk (leaves_at t (by omega))
  rw [← ha] at hn htl LV
  have hm1 : max 1 (2 * a) = if a = 0 then 1 else 2 * a := by split <;> omega
  have hnn : n' = 1 ∨ n' = 2 ∨ n' = 4 ∨ n' = 8 := by rw [hn', hm1]; split <;> omega
  have HNP : Aside0 (a < n') := ⟨by rw [hn', hm1]; split <;> omega⟩
  have HNM : Aside0 (n' = if a = 0 then 1 else 2 * a) := ⟨by rw [hn', hm1]⟩
  have hn8 : (a : Int) < 8 := by omega
  have hne8 : ((a : Int) == 8) = false := beq_eq_false_iff_ne.2 (by omega)
  have HN := Aside0.mk hnn
  have HTL := Aside0.mk htl
  clear hn htl hn' hm1 hnn ha
  go_enter Tryd.func13, Tryd.ntmps13
  go_wp2_with (first | (go_at_call 10; refine (tree_Check.calls A0 c0 t _ _ (Kd.C_alloc (Kd.C_alloc (Kd.C_alloc HR.out _) _) _) HC.out (((HT.out.alloc _).alloc _).alloc _) CK.out).mono ?_; rintro e w1 ⟨rfl, hb⟩; have AB := Aside0.mk (AddB.start hb); obtain ⟨x0, x1, x2, x3, x4, x5⟩ := AB.out.cells; clear hb) | (go_at_call 15; refine (tree_Find.calls 10 A0 c0 t _ _ _ (Kd.C_below HR.out AB.out.bel) HC.out (TabG.below HT.out AB.out.bel) FD.out).mono ?_; rintro e w2 ⟨rfl, hb⟩; have AB2 := Aside0.mk (AB.out.below hb); clear x0 x1 x2 x3 x4 x5; obtain ⟨x0, x1, x2, x3, x4, x5⟩ := AB2.out.cells; clear hb) | (go_at_call 26; refine (tree_leaves.calls A0 c0 t _ _ (Kd.C_below HR.out AB2.out.bel) HC.out LV.out).mono ?_; rintro e w3 ⟨rfl, hb⟩; have AB3 := Aside0.mk (AB2.out.below hb); clear x0 x1 x2 x3 x4 x5; obtain ⟨x0, x1, x2, x3, x4, x5⟩ := AB3.out.cells; clear hb))
  go_loopw [8] (fun v8 wr => ∃ k : Nat, k ≤ a ∧ v8 = .int .i64 k ∧ w3 = wr) (fun v8 _ => a - (intOf v8).toNat)
  case atStart => exact ⟨0, Nat.zero_le _, rfl, rfl⟩
  case round =>
    obtain ⟨k, hk, rfl, rfl⟩ := hrel
    by_cases hlt : k < a
    · obtain ⟨ad, A3, c3, e3, y0, -, -, -, -, -⟩ := at_T45 (Kd.C_below HR.out AB3.out.bel) ((2 * k : Nat) : Int) (by omega) (by have := HTL.out; omega)
      rw [rd_at, Int.toNat_natCast] at y0
      cases e3
      have h2k : (2 * (k : Int)).toNat = 2 * k := by omega
      have hkl : 2 * k < t.length := by have := HTL.out; omega
      have hp := HA.out k hlt
      generalize (nodeN t (2 * k)).f0 = p0 at y0 hp
      have dp : decide (0 < p0) = true := decide_eq_true hp
      go_wp2
      go_roundw
      case rel => exact ⟨k + 1, by omega, by go_num, by first | rfl | trivial⟩
      case measure => simp [intOf]; omega
    · obtain rfl : k = a := by omega
      have h2k : (2 * (k : Int)).toNat = 2 * k := by omega
      obtain ⟨M, hM⟩ : ∃ M, M = 2 * n' - 1 := ⟨_, rfl⟩
      have hkM : 2 * k < M := by have := HNP.out; omega
      have HMN : Aside0 (2 * n' - 1 = M) := ⟨hM.symm⟩
      have HM2 := Aside0.mk hM
      have HLM : Aside0 (t.length ≤ M) := ⟨by have := HTL.out; have := HNP.out; omega⟩
      have HUN : Aside0 (∀ x ∈ t, x.f3.length * 8 ≤ 140737488355328) := ⟨un_bound HOK.out⟩
      have HTL2 : Aside0 ((t ++ List.replicate (M - t.length) z45).length = M) := ⟨by have := HLM.out; simp; omega⟩
      have HN8 : Aside0 (1 ≤ n' ∧ n' ≤ 8) := ⟨by have := HN.out; omega⟩
      have hM15 : (M : Int) ≤ 15 := by have := HN8.out; omega
      clear hM
      have HKM := Aside0.mk hkM
      have hmx : (if (1 : Int) < 2 * (k : Int) then 2 * (k : Int) else 1) = (n' : Int) := by have := HNM.out; split at this <;> split <;> omega
      go_wp2_with (first | (go_at_call 30; refine (twin_any A0 c0 t _ M _ ⟨Kd.C_below HR.out AB3.out.bel⟩ ⟨?tM⟩ ?t1 ?t2 ⟨?tL⟩ ⟨?tU⟩).mono ?_; (case tM => have := HMN.out; have := HN8.out; omega); (case t1 => have := HN8.out; omega); (case t2 => have := HN8.out; omega); (case tL => exact HLM.out); (case tU => exact HUN.out); rintro e w4 ⟨g, cs, us, rfl, hTB, hb⟩; have AB4 := Aside0.mk (AB3.out.below hb); have HTB := Aside0.mk hTB; obtain ⟨u0, hu0, z0, z1, z2, z3, -⟩ := hTB.cells (2 * k) (by rw [HTL2.out]; exact hkM); have f0 := blk_frozen hTB.blk (2 * k * 4); have f1 := blk_frozen hTB.blk (2 * k * 4 + 1); have f2 := blk_frozen hTB.blk (2 * k * 4 + 2); have f3 := blk_frozen hTB.blk (2 * k * 4 + 3); have HGL := Aside0.mk hTB.lt; have HGB : Aside0 (w.heap.size ≤ g) := ⟨Nat.le_trans AB3.out.bel.size hTB.hb⟩; have HLO : Aside0 (w.heap.size + 1 + 1 + 1 ≤ w3.heap.size) := ⟨AB3.out.sz⟩; have HB4 := Aside0.mk hb; have s1 : w.heap.size + 1 < w4.heap.size := (by have := AB4.out.sz; omega); have s2 : w.heap.size + 1 + 1 < w4.heap.size := (by have := AB4.out.sz; omega); have s3 := HGL.out; clear x0 x1 x2 x3 x4 x5; obtain ⟨x0, x1, x2, x3, x4, x5⟩ := AB4.out.cells; clear hb hTB hu0) | (go_at_call 31; refine (direct_new n' k HN.out ?dK _ ⟨TabG.below HT.out (below_node AB4.out.bel HGB.out _ _ _ _ _ _)⟩).mono ?_; (case dK => exact HNP.out); rintro e w6 ⟨Ad, cd, rfl, hcd, hC, hAb, hb⟩; have HL := Aside0.mk (AddL.start (a := k) AB4.out HTB.out HTL2.out HKM.out HLO.out hC hAb hb); have HCD := Aside0.mk hcd; clear hC hAb hb hcd))
      have hdl3 := dirL_len n' k
      have HDB : Aside0 (∀ q, q < (dirL n' k).length → (dirL n' k).getD q 0 < M) := ⟨fun q hq => by have := (cop_at n' k HN.out HNP.out).2.2.2 ((dirL n' k).getD q 0) (by rw [List.getD_eq_getElem?_getD, List.getElem?_eq_getElem hq]; exact List.getElem_mem _); have := HMN.out; have := HN8.out; omega⟩
      have HDN : Aside0 ((dirL n' k).Nodup) := ⟨dirL_nodup n' k HN.out HNP.out⟩
      generalize hdl : dirL n' k = dl at *
      have HDL := Aside0.mk hdl
      generalize hT0 : ((t ++ List.replicate (M - t.length) z45).set (2 * k) (newN m ep pub)) = T0 at HL
      have HT0 := Aside0.mk hT0
      have HT0L : Aside0 (T0.length = M) := ⟨by rw [← hT0, List.length_set]; exact HTL2.out⟩
      have HT0S : Aside0 (Sorted0 T0) := ⟨by rw [← hT0]; exact sorted_start HOK.out _ _ _ rfl⟩
      clear hdl hT0 x0 x1 x2 x3 x4 x5 z0 z1 z2 z3 f0 f1 f2 f3 s1 s2 s3
      generalize hb9 : w4.heap.size = b9 at *
      have hm3 : (dl.length : Int) ≤ 3 := by omega
      go_loopw [88] (fun v88 wr => ∃ j : Nat, j ≤ dl.length ∧ v88 = .int .i64 j ∧ Aside0 (AddL A0 t.length c0 m ep pub w w3.heap.size g b9 M Ad dl k (noteL T0 k (dl.take j)) wr)) (fun v88 _ => dl.length - (intOf v88).toNat)
      case atStart => exact ⟨0, Nat.zero_le _, rfl, HL⟩
      case round =>
        clear HL
        obtain ⟨j, hj, rfl, HL⟩ := hrel
        obtain ⟨cs2, us2, htb, hax⟩ := HL.out.tb
        have hT : (noteL T0 k (dl.take j)).length = M := by rw [noteL_len]; exact HT0L.out
        by_cases hlt2 : j < dl.length
        · obtain ⟨ad2, rfl, hdc⟩ := HL.out.dc j hlt2
          have hxM := HDB.out j hlt2
          have HNT : Aside0 (noteL T0 k (dl.take (j + 1)) = (noteL T0 k (dl.take j)).set (dl.getD j 0) (insN k (nodeN (noteL T0 k (dl.take j)) (dl.getD j 0)))) := ⟨noteL_take hlt2⟩
          have HSO : Aside0 ((nodeN (noteL T0 k (dl.take j)) (dl.getD j 0)).f3.Pairwise (· < ·) ∧ (nodeN (noteL T0 k (dl.take j)) (dl.getD j 0)).f3.length ≤ 8) := ⟨by rw [noteL_other _ _ (nodup_fresh HDN.out hlt2)]; exact HT0S.out _⟩
          generalize hx : dl.getD j 0 = x at *
          generalize hTT : noteL T0 k (dl.take j) = T at *
          obtain ⟨u, hu, z0, z1, z2, z3, hRu⟩ := htb.cells x (by omega)
          change _ = some (Value.int .i64 (nodeN T x).f0) at z0
          change Kd.R _ _ _ _ _ u (nodeN T x).f3 at hRu
          have hbx := blk_cell HL.out.bx 0
          have hfz := blk_frozen htb.blk (x * 4 + 3)
          have hso := HSO.out
          have HNX := Aside0.mk (nodeN_get (T := T) (x := x) (by omega))
          generalize hND : nodeN T x = nd at *
          obtain ⟨p0, p1, p2, un⟩ := nd
          change wr.cell? _ = some (Value.int .i64 p0) at z0
          change Kd.R _ _ _ _ _ u un at hRu
          change un.Pairwise (· < ·) ∧ un.length ≤ 8 at hso
          obtain ⟨Au, cu, rfl, hlu, hCu⟩ := Kd.R_reads hRu
          obtain ⟨bb, hbs⟩ := bs_at hso.1 (by omega) (k : Int)
          have hlen8 : (un.length : Int) ≤ 8 := by omega
          have HP := Aside0.mk (posN_le un (k : Int))
          have HTB2 := Aside0.mk htb
          have HU := Aside0.mk hu
          have HAX := Aside0.mk hax
          have HRU := Aside0.mk hRu
          have HCU := Aside0.mk hCu
          have HLU := Aside0.mk hlu
          have HBS := Aside0.mk hbs
          have HXT := Aside0.mk (show x < T.length by omega)
          have HND := Aside0.mk hND
          have HZ3 := Aside0.mk z3
          clear htb hu hax hRu hCu hlu hbs hso z1 z2 hx hTT hND
          have hxI : ((x : Int)).toNat = x := Int.toNat_natCast x
          have hxl : (x : Int) < (M : Int) := by omega
          clear hxI
          by_cases hp : 0 < p0
          · have dp : decide (0 < p0) = true := decide_eq_true hp
            have HGU : Aside0 (some g ≠ (Value.slice Au un.length cu).ownBlock) := ⟨fun e => (HTB2.out.own HU.out g e.symm).1 rfl⟩
            have HGB8 : Aside0 (∀ o, ((wr.drewN 0).alloc o).heap[g]? = some (.cells cs2.toArray 45 (0, 0))) := ⟨fun o => ((grow_alloc o none).block g HTB2.out.lt (by simp)).trans HTB2.out.blk⟩
            have HC8 : Aside0 (cs2.toArray[x * 4 + 3]? = some (.slice Au un.length cu)) := ⟨by have h := z3; rw [blk_cell HTB2.out.blk] at h; exact h⟩
            go_wp2_with (first | (go_at_call 32; refine (slices_BinarySearch_int_int.calls 1002 Au cu un _ _ _ _ HCU.out HLU.out HBS.out).mono ?_; rintro e w7 ⟨rfl, hd⟩; obtain ⟨q0, rfl⟩ := hd.out; clear hd) | (go_at_call 33; refine (ins_at (.slice Au un.length cu) un (posN un (k : Int)) (k : Int) wr.heap.size w3.heap.size (fun q => q ≠ g) _ ?iR HP.out ?iL ?iB ?iN ?iW).mono ?_; (case iR => exact Kd.R_alloc (Kd.R_drewN HRU.out _) _); (case iL => omega); (case iB => exact heap_alloc_new (wr.drewN q0) _); (case iN => exact fun e => by have := (HTB2.out.own HU.out _ e.symm).2.2; omega); (case iW => have := HTB2.out.lt; have := HTB2.out.hb; simp; omega); rintro e w8 ⟨u8, rfl, hR8, hg8, hat8⟩; obtain ⟨A8, n8, rfl⟩ := Kd.R_slice hR8; have HNEXT := Aside0.mk (HL.out.next HTB2.out HU.out HXT.out HAX.out hg8 hR8 hat8); have hb8 := (hg8.block g (Nat.lt_of_lt_of_le HTB2.out.lt (by simp)) HGU.out).trans (HGB8.out _); have c8 := (blk_cell hb8 (x * 4 + 3)).trans HC8.out; have f8 := blk_frozen hb8 (x * 4 + 3); clear hb8 hR8 hg8 hat8))
            go_roundw
            case rel => exact ⟨j + 1, by omega, by go_num, ⟨by rw [HNT.out, insN_yes hp]; rw [HND.out] at HNEXT; exact HNEXT.out⟩⟩
            case measure => simp [intOf]; omega
          · have dp : decide (0 < p0) = false := decide_eq_false hp
            go_wp2
            go_roundw
            case rel => exact ⟨j + 1, by omega, by go_num, ⟨by rw [HNT.out, insN_no hp, set_same HNX.out]; exact HL.out⟩⟩
            case measure => simp [intOf]; omega
        · obtain rfl : j = dl.length := by omega
          have hbx := blk_cell HL.out.bx 0
          obtain ⟨x0, x1, x2, x3, x4, x5⟩ := HL.out.ab.cells
          have HTB2 := Aside0.mk htb
          clear htb
          have HT2 := Aside0.mk hT
          clear hT
          rw [List.take_length] at HTB2 HT2
          go_wp2
          have hq := (HL.out.ab.res (.slice (some ⟨g, 0, none⟩) M M)).1
          have hgw : g ≠ w.heap.size + 1 + 1 := by have := HTB2.out.hb; have := HL.out.lo; omega
          refine bodyPost_ret (v := .tuple #[.agg #[.slice (some ⟨g, 0, none⟩) M M], .int .i64 k, .int .i64 0]) (by simp [results, Tryd.results13, go_sem, hq]) rfl ⟨_, rfl, ?_, (HL.out.ab.res _).2⟩
          have hfin := (HTB2.out.set_other HL.out.ab.b2 (by decide) hgw 0 (.slice (some ⟨g, 0, none⟩) M M)).S (by rw [HT2.out]; omega)
          rw [HT2.out] at hfin
          have := Kd.S_lower hfin (show w.heap.size ≤ w3.heap.size by have := HL.out.lo; omega)
          rw [← HT0.out, ← HDL.out] at this
          unfold addT
          rw [← HM2.out]
          exact this
def firstFrom (t : List S45) : Nat → Nat → Nat
  | 0, i => i
  | d + 1, i => if 0 < (nodeN t (2 * i)).f0 then firstFrom t d (i + 1) else i
def firstB (t : List S45) : Nat := firstFrom t (lvsN t) 0
theorem firstFrom_spec (t : List S45) : ∀ (d i : Nat), i ≤ firstFrom t d i ∧ firstFrom t d i ≤ i + d ∧ (∀ k, i ≤ k → k < firstFrom t d i → 0 < (nodeN t (2 * k)).f0) ∧ (firstFrom t d i < i + d → ¬ 0 < (nodeN t (2 * firstFrom t d i)).f0) := by
  intro d
  induction d with
  | zero => intro i; simp only [firstFrom]; exact ⟨by omega, by omega, fun k h1 h2 => by omega, fun h => by omega⟩
  | succ d ih =>
    intro i
    simp only [firstFrom]
    by_cases h : 0 < (nodeN t (2 * i)).f0
    · rw [if_pos h]
      obtain ⟨h1, h2, h3, h4⟩ := ih (i + 1)
      refine ⟨by omega, by omega, fun k hk1 hk2 => ?_, fun hl => h4 (by omega)⟩
      by_cases e : k = i
      · subst e; exact h
      · exact h3 k (by omega) hk2
    · rw [if_neg h]
      exact ⟨by omega, by omega, fun k h1 h2 => by omega, fun _ => h⟩
theorem firstB_spec (t : List S45) : firstB t ≤ lvsN t ∧ (∀ k, k < firstB t → 0 < (nodeN t (2 * k)).f0) ∧ (firstB t < lvsN t → ¬ 0 < (nodeN t (2 * firstB t)).f0) := by
  obtain ⟨_, h2, h3, h4⟩ := firstFrom_spec t (lvsN t) 0
  unfold firstB
  exact ⟨by omega, fun k hk => h3 k (by omega) hk, fun h => h4 (by omega)⟩
theorem findFrom_sign (t : List S45) (m : Int) : ∀ (d i : Nat), findFrom t m d i = -1 ∨ ((i : Int) ≤ findFrom t m d i ∧ findFrom t m d i < (i + d : Nat)) := by
  intro d
  induction d with
  | zero => intro i; exact .inl rfl
  | succ d ih =>
    intro i
    simp only [findFrom]
    split
    · exact .inr (by omega)
    · rcases ih (i + 1) with h | h
      · exact .inl h
      · exact .inr (by omega)
set_option maxRecDepth 100000 in
set_option maxHeartbeats 2000000 in
theorem add_limit (A0 : Option Addr) (c0 : Nat) (t : List S45) (m ep pub : Int) (a : Nat) (w : World) (HR : Aside0 (Kd.C k45 w A0 t.length t)) (HC : Aside0 (t.length ≤ c0)) (HT : Aside0 (TabG w)) (CK : Aside0 (tree_Check.f t = some 0)) (h1 : 0 ≤ m) (h2 : 0 ≤ ep) (h3 : 1 ≤ pub) (FD : Aside0 (tree_Find.f 10 t m = some (-1))) (HOK : Aside0 (okB t = true))
    (ha : a = lvsN t) (ha8 : a = 8) (HA : Aside0 (∀ i, i < a → 0 < (nodeN t (2 * i)).f0)) :
    Calls Tryd.prog 13 #[.agg #[.slice A0 t.length c0], .agg #[.int .i64 m, .int .i64 ep, .int .i64 pub]] w (AddErr w 3) := by
  have hu24 := Tryd.underlying24
  have hu26 := Tryd.underlying26
  have hu45 := Tryd.underlying45
  have d1 : decide (m < 0) = false := decide_eq_false (by omega)
  have d2 : decide (ep < 0) = false := decide_eq_false (by omega)
  have d3 : decide (pub < 1) = false := decide_eq_false (by omega)
  have htl : t.length = 15 := by rcases ok_len HOK.out with ⟨_, h⟩ | ⟨_, h⟩ <;> omega
  have LV := Aside0.mk (leaves_at t (by omega))
  rw [← ha] at LV
  subst ha8
  have HTL := Aside0.mk htl
  clear htl ha
  go_enter Tryd.func13, Tryd.ntmps13
  go_wp2_with (first | (go_at_call 10; refine (tree_Check.calls A0 c0 t _ _ (Kd.C_alloc (Kd.C_alloc (Kd.C_alloc HR.out _) _) _) HC.out (((HT.out.alloc _).alloc _).alloc _) CK.out).mono ?_; rintro e w1 ⟨rfl, hb⟩; have AB := Aside0.mk (AddB.start hb); obtain ⟨x0, x1, x2, x3, x4, x5⟩ := AB.out.cells; clear hb) | (go_at_call 15; refine (tree_Find.calls 10 A0 c0 t _ _ _ (Kd.C_below HR.out AB.out.bel) HC.out (TabG.below HT.out AB.out.bel) FD.out).mono ?_; rintro e w2 ⟨rfl, hb⟩; have AB2 := Aside0.mk (AB.out.below hb); clear x0 x1 x2 x3 x4 x5; obtain ⟨x0, x1, x2, x3, x4, x5⟩ := AB2.out.cells; clear hb) | (go_at_call 26; refine (tree_leaves.calls A0 c0 t _ _ (Kd.C_below HR.out AB2.out.bel) HC.out LV.out).mono ?_; rintro e w3 ⟨rfl, hb⟩; have AB3 := Aside0.mk (AB2.out.below hb); clear x0 x1 x2 x3 x4 x5; obtain ⟨x0, x1, x2, x3, x4, x5⟩ := AB3.out.cells; clear hb))
  go_loopw [8] (fun v8 wr => ∃ k : Nat, k ≤ 8 ∧ v8 = .int .i64 k ∧ w3 = wr) (fun v8 _ => 8 - (intOf v8).toNat)
  case atStart => exact ⟨0, Nat.zero_le _, rfl, rfl⟩
  case round =>
    obtain ⟨k, hk, rfl, rfl⟩ := hrel
    by_cases hlt : k < 8
    · obtain ⟨ad, A3, c3, e3, y0, -, -, -, -, -⟩ := at_T45 (Kd.C_below HR.out AB3.out.bel) ((2 * k : Nat) : Int) (by omega) (by have := HTL.out; omega)
      rw [rd_at, Int.toNat_natCast] at y0
      cases e3
      have h2k : (2 * (k : Int)).toNat = 2 * k := by omega
      have hkl : 2 * k < t.length := by have := HTL.out; omega
      have hp := HA.out k hlt
      generalize (nodeN t (2 * k)).f0 = p0 at y0 hp
      have dp : decide (0 < p0) = true := decide_eq_true hp
      go_wp2
      go_roundw
      case rel => exact ⟨k + 1, by omega, by go_num, by first | rfl | trivial⟩
      case measure => simp [intOf]; omega
    · obtain rfl : k = 8 := by omega
      go_wp2
      have hq := (AB3.out.res (.slice none 0 0)).1
      exact bodyPost_ret (v := .tuple #[.agg #[.slice none 0 0], .int .i64 0, .int .i64 3]) (by simp [results, Tryd.results13, go_sem, hq]) rfl ⟨rfl, (AB3.out.res _).2⟩
def tree_Add.f (t : List S45) (m ep pub : Int) : Option (List S45 × Int × Int) :=
  if t.all (fun n => wfI n.f1) = true then
    some (if okB t = true ∧ 0 ≤ m ∧ 0 ≤ ep ∧ 1 ≤ pub then
      (if 0 ≤ findT t m then ([], 0, 13)
       else if firstB t < lvsN t then (addT t (firstB t) (lvsN t) (newN m ep pub), ((firstB t : Nat) : Int), 0)
       else if lvsN t = 8 then ([], 0, 3)
       else (addT t (firstB t) (max 1 (2 * firstB t)) (newN m ep pub), ((firstB t : Nat) : Int), 0))
      else ([], 0, 1))
  else none
theorem add_err {w : World} {x : Int} {e : Ending} {w' : World} (h : AddErr w x e w') : ∃ v0_ : Value, e = .returned (.tuple #[.agg #[v0_], .int .i64 0, .int .i64 x]) ∧ Kd.S k45 45 w' w.heap.size (fun _ => True) v0_ [] ∧ Below w.heap.size w w' := ⟨_, h.1, Kd.S_nil _ _ _ _ _, h.2⟩
theorem tree_Add.calls (A0_0 : Option Addr) (c0_0 : Nat) (l0_0 : List (S45)) (a1_0 : Int) (a1_1 : Int) (a1_2 : Int) (r1 : List (S45)) (r2 : Int) (r3 : Int) (w : World) (hr0_0 : Kd.C k45 w A0_0 l0_0.length l0_0) (hc0_0 : l0_0.length ≤ c0_0) (hT : TabG w) (h : tree_Add.f l0_0 a1_0 a1_1 a1_2 = some (r1, r2, r3)) :
    Calls Tryd.prog 13 #[.agg #[.slice A0_0 l0_0.length c0_0], .agg #[.int .i64 a1_0, .int .i64 a1_1, .int .i64 a1_2]] w fun e w' => ∃ v0_ : Value, e = .returned (.tuple #[.agg #[v0_], .int .i64 r2, .int .i64 r3]) ∧ Kd.S k45 45 w' w.heap.size (fun _ => True) v0_ r1 ∧ Below w.heap.size w w' := by
  unfold tree_Add.f at h
  by_cases hw : l0_0.all (fun n => wfI n.f1) = true
  · rw [if_pos hw] at h
    have hck : tree_Check.f l0_0 = some (if okB l0_0 = true then 0 else 1) := if_pos hw
    have hfd := find_at hw a1_0
    have h := Option.some.inj h
    by_cases hok : okB l0_0 = true
    · rw [if_pos hok] at hck
      by_cases ha : 0 ≤ a1_0 ∧ 0 ≤ a1_1 ∧ 1 ≤ a1_2
      · rw [if_pos ⟨hok, ha⟩] at h
        obtain ⟨a1, a2, a3⟩ := ha
        by_cases hf : 0 ≤ findT l0_0 a1_0
        · rw [if_pos hf] at h
          injection h with e1 h
          injection h with e2 e3
          subst e1 e2 e3
          exact (add_twice A0_0 c0_0 l0_0 a1_0 a1_1 a1_2 _ w ⟨hr0_0⟩ ⟨hc0_0⟩ ⟨hT⟩ ⟨hck⟩ a1 a2 a3 ⟨hfd⟩ hf).mono (fun _ _ h => add_err h)
        · rw [if_neg hf] at h
          have hf1 : findT l0_0 a1_0 = -1 := by
            unfold findT at hf ⊢
            rw [if_pos hok] at hf ⊢
            rcases findFrom_sign l0_0 a1_0 (lvsN l0_0) 0 with e | e
            · exact e
            · omega
          rw [hf1] at hfd
          obtain ⟨s1, s2, s3⟩ := firstB_spec l0_0
          by_cases hr : firstB l0_0 < lvsN l0_0
          · rw [if_pos hr] at h
            injection h with e1 h
            injection h with e2 e3
            subst e1 e2 e3
            exact add_room A0_0 c0_0 l0_0 a1_0 a1_1 a1_2 (firstB l0_0) w ⟨hr0_0⟩ ⟨hc0_0⟩ ⟨hT⟩ ⟨hck⟩ a1 a2 a3 ⟨hfd⟩ ⟨hok⟩ hr ⟨s2⟩ ⟨s3 hr⟩
          · rw [if_neg hr] at h
            have he : firstB l0_0 = lvsN l0_0 := by omega
            by_cases h8 : lvsN l0_0 = 8
            · rw [if_pos h8] at h
              injection h with e1 h
              injection h with e2 e3
              subst e1 e2 e3
              exact (add_limit A0_0 c0_0 l0_0 a1_0 a1_1 a1_2 (firstB l0_0) w ⟨hr0_0⟩ ⟨hc0_0⟩ ⟨hT⟩ ⟨hck⟩ a1 a2 a3 ⟨hfd⟩ ⟨hok⟩ he (by omega) ⟨s2⟩).mono (fun _ _ h => add_err h)
            · rw [if_neg h8] at h
              injection h with e1 h
              injection h with e2 e3
              subst e1 e2 e3
              exact add_full A0_0 c0_0 l0_0 a1_0 a1_1 a1_2 (firstB l0_0) w ⟨hr0_0⟩ ⟨hc0_0⟩ ⟨hT⟩ ⟨hck⟩ a1 a2 a3 ⟨hfd⟩ ⟨hok⟩ _ he (by rcases ok_len hok with ⟨_, e⟩ | ⟨e, _⟩ <;> omega) rfl ⟨s2⟩
      · rw [if_neg (fun hh => ha hh.2)] at h
        injection h with e1 h
        injection h with e2 e3
        subst e1 e2 e3
        exact (add_bad A0_0 c0_0 l0_0 a1_0 a1_1 a1_2 w ⟨hr0_0⟩ ⟨hc0_0⟩ ⟨hT⟩ ⟨hck⟩ (by omega)).mono (fun _ _ h => add_err h)
    · rw [if_neg (fun hh => hok hh.1)] at h
      rw [if_neg hok] at hck
      injection h with e1 h
      injection h with e2 e3
      subst e1 e2 e3
      exact (add_odd A0_0 c0_0 l0_0 a1_0 a1_1 a1_2 w ⟨hr0_0⟩ ⟨hc0_0⟩ ⟨hT⟩ ⟨hck⟩).mono (fun _ _ h => add_err h)
  · rw [if_neg hw] at h; cases h
end
end Go.Proofs.YtfgalpfiggnkpaaDoor.PT
