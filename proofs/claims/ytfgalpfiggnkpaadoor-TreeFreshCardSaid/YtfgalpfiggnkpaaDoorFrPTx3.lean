/- What treeFresh_card uses of the printed words and contracts. -/
import Derived.Test.YtfgalpfiggnkpaaDoorFrPTx0
import Derived.Test.YtfgalpfiggnkpaaDoorFrPTx1
import Derived.Test.YtfgalpfiggnkpaaDoorFrPTx2
namespace Go.Proofs.YtfgalpfiggnkpaaDoor.PT
open Go.RowKit Go.Proofs.YtfgalpfiggnkpaaDoorW.PrintWords Go.Proofs.YtfgalpfiggnkpaaDoorW.PrintLast Go.Proofs.YtfgalpfiggnkpaaDoorW.PrintMore
attribute [local go_sem] max2_int min2_int max_two min_two max_three min_three max_four min_four   -- for this text's walks alone
set_option linter.unusedVariables false
set_option linter.unusedSimpArgs false
section
open Go.Maps
def nodeN (t : List S45) (x : Nat) : S45 := t.getD x z45
def lvsN (t : List S45) : Nat := if t.length = 1 then 1 else if t.length = 3 then 2 else if t.length = 7 then 4 else if t.length = 15 then 8 else 0
def blankB (n : S45) : Bool := decide (n.f0 = 0) && decide (n.f1 = 0) && decide (n.f2 = 0) && n.f3.isEmpty
def leafB (n : S45) : Bool := blankB n || (decide (1 ≤ n.f0) && decide (0 ≤ n.f1) && decide (0 ≤ n.f2) && n.f3.isEmpty)
def risingB (t : List S45) (l : Int) : Int → List Int → Bool
  | _, [] => true
  | f, u :: us => decide (f ≤ u) && decide (u ≤ l) && decide ((nodeN t (2 * u).toNat).f0 ≠ 0) && risingB t l (u + 1) us
def fstT : List Int := [0, 0, 1, 0, 2, 2, 3, 0, 4, 4, 5, 4, 6, 6, 7]
def lstT : List Int := [0, 1, 1, 3, 2, 3, 3, 7, 4, 5, 5, 7, 6, 7, 7]
def parentB (t : List S45) (x : Nat) : Bool :=
  if (nodeN t x).f0 < 1 ∨ (nodeN t x).f1 ≠ 0 ∨ (nodeN t x).f2 ≠ 0 then blankB (nodeN t x) else risingB t (lstT.getD x 0) (fstT.getD x 0) (nodeN t x).f3
def fineB (t : List S45) (x : Nat) : Bool := if x % 2 = 1 then parentB t x else leafB (nodeN t x)
def tkB (t : List S45) (x : Nat) : Bool := decide (x % 2 = 0) && !blankB (nodeN t x)
def memsTo (t : List S45) : Nat → List Int
  | 0 => []
  | k + 1 => if tkB t k then memsTo t k ++ [(nodeN t k).f1] else memsTo t k
def lastTo (t : List S45) : Nat → Int
  | 0 => -1
  | k + 1 => if tkB t k then ((k / 2 : Nat) : Int) else lastTo t k
def okB (t : List S45) : Bool := t.isEmpty || (decide (lvsN t ≠ 0) && (List.range t.length).all (fineB t) && decide ((memsTo t t.length).Nodup) && decide (((lvsN t / 2 : Nat) : Int) ≤ lastTo t t.length))
def wfI (m : Int) : Bool := (Lit.int .i64 m).wf
def tree_Check.f (l0_0 : List S45) : Option Int := if l0_0.all (fun n => wfI n.f1) = true then some (if okB l0_0 = true then 0 else 1) else none
theorem leaves_at (t : List S45) (h : t.length ≤ 9223372036854775807) : tree_leaves.f t = some (lvsN t : Int) := by
  unfold tree_leaves.f lvsN
  generalize t.length = n at h ⊢
  by_cases hb : n ≤ 16
  · have hall : (List.range 17).all (fun n => decide ((if (wrap64 (Int.tdiv (wrap64 ((n : Int) + 1)) 2)) > 8 then (some 0) else (if (n : Int) = 0 then (some 0) else ((index_Width.f (wrap64 (Int.tdiv (wrap64 ((n : Int) + 1)) 2))).bind fun t108 => (if t108 = (n : Int) then (some (wrap64 (Int.tdiv (wrap64 ((n : Int) + 1)) 2))) else (some 0))))) = some (((if n = 1 then 1 else if n = 3 then 2 else if n = 7 then 4 else if n = 15 then 8 else 0 : Nat) : Nat) : Int))) = true := by decide +kernel
    have := List.all_eq_true.1 hall n (List.mem_range.2 (by omega))
    exact of_decide_eq_true this
  · rw [show (if n = 1 then 1 else if n = 3 then 2 else if n = 7 then 4 else if n = 15 then 8 else 0 : Nat) = 0 from by rw [if_neg (by omega), if_neg (by omega), if_neg (by omega), if_neg (by omega)]]
    by_cases he : n = 9223372036854775807
    · subst he
      decide +kernel
    · rw [if_pos]
      · rfl
      · have h1 : wrap64 ((n : Int) + 1) = n + 1 := by unfold wrap64; omega
        rw [h1]
        have h2 : Int.tdiv ((n : Int) + 1) 2 = ((n + 1) / 2 : Nat) := by rw [show ((n : Int) + 1) = ((n + 1 : Nat) : Int) from by omega, show (2 : Int) = ((2 : Nat) : Int) from rfl, ← Int.ofNat_tdiv]
        rw [h2]
        unfold wrap64
        omega
theorem span_all : (List.range 15).all (fun (x : Nat) => index_Span.f x == some (fstT.getD x 0, lstT.getD x 0)) = true := by decide +kernel
theorem span_at (x : Nat) (h : x ≤ 14) : index_Span.f x = some (fstT.getD x 0, lstT.getD x 0) := by
  have := List.all_eq_true.1 span_all x (List.mem_range.2 (by omega))
  simpa using this
theorem blank_at (n : S45) : tree_blank.f n.f0 n.f1 n.f2 n.f3 = some (blankB n) := by
  unfold tree_blank.f blankB
  by_cases h0 : n.f0 = 0
  · rw [if_pos h0]
    by_cases h1 : n.f1 = 0
    · rw [if_pos h1]
      by_cases h2 : n.f2 = 0
      · rw [if_pos h2]
        cases hl : n.f3 <;> simp [h0, h1, h2] <;> omega
      · rw [if_neg h2]; simp [h2]
    · rw [if_neg h1]; simp [h1]
  · rw [if_neg h0]; simp [h0]
theorem lst_in : (List.range 15).all (fun (x : Nat) => decide (0 ≤ fstT.getD x 0) && ((List.range 16).all fun n => !(decide (n = 1) || decide (n = 3) || decide (n = 7) || decide (n = 15)) || !decide (x < n) || decide (2 * lstT.getD x 0 < (n : Int)))) = true := by decide +kernel
theorem lst_at (t : List S45) (hv : lvsN t ≠ 0) (x : Nat) (hx : x < t.length) : 0 ≤ fstT.getD x 0 ∧ 2 * lstT.getD x 0 < (t.length : Int) ∧ t.length ≤ 15 ∧ x ≤ 14 := by
  have hn : t.length = 1 ∨ t.length = 3 ∨ t.length = 7 ∨ t.length = 15 := by
    unfold lvsN at hv
    by_cases a1 : t.length = 1
    · exact .inl a1
    · by_cases a2 : t.length = 3
      · exact .inr (.inl a2)
      · by_cases a3 : t.length = 7
        · exact .inr (.inr (.inl a3))
        · by_cases a4 : t.length = 15
          · exact .inr (.inr (.inr a4))
          · exact absurd (by rw [if_neg a1, if_neg a2, if_neg a3, if_neg a4]) hv
  have h := List.all_eq_true.1 lst_in x (List.mem_range.2 (by omega))
  simp only [Bool.and_eq_true, decide_eq_true_eq] at h
  have h2 := List.all_eq_true.1 h.2 t.length (List.mem_range.2 (by omega))
  refine ⟨h.1, ?_, by omega, by omega⟩
  simp only [Bool.or_eq_true, Bool.not_eq_true', decide_eq_true_eq, decide_eq_false_iff_not, Bool.or_eq_false_iff] at h2
  rcases h2 with (h2 | h2) | h2
  · omega
  · omega
  · exact h2
theorem rd_at (t : List S45) (x : Nat) : rd_T45 t (x : Int) = nodeN t x := by simp [rd_T45, nodeN]
theorem rising_at (t : List S45) (ln : Int) (hl : 2 * ln < (t.length : Int)) (ht : t.length ≤ 15) (un : List Int) (hu : un.length ≤ 9223372036854775807) (d : Nat) : ∀ (i : Nat) (f : Int) (k : Nat), 0 ≤ f → i + d = un.length → d < k →
    tree_parent.l0 k f ln un (un.length : Int) (i : Int) t = some (risingB t ln f (un.drop i)) := by
  induction d with
  | zero =>
    intro i f k hf hi hk
    obtain ⟨k, rfl⟩ : ∃ m, k = m + 1 := ⟨k - 1, by omega⟩
    simp only [tree_parent.l0]
    rw [if_neg (by omega), List.drop_eq_nil_of_le (by omega)]
    rfl
  | succ d ih =>
    intro i f k hf hi hk
    obtain ⟨k, rfl⟩ : ∃ m, k = m + 1 := ⟨k - 1, by omega⟩
    have hlt : i < un.length := by omega
    have hr : rd un (i : Int) = un[i] := by simp [rd, List.getD_eq_getElem?_getD, List.getElem?_eq_getElem hlt]
    have hw : wrap64 ((i : Int) + 1) = ((i + 1 : Nat) : Int) := by unfold wrap64; omega
    rw [List.drop_eq_getElem_cons hlt]
    simp only [tree_parent.l0, risingB]
    rw [if_pos (by omega), if_pos (by omega), if_pos (by omega), hr, hw]
    by_cases h1 : un[i] < f
    · rw [if_pos h1]; simp [show ¬ f ≤ un[i] by omega]
    · rw [if_neg h1]
      by_cases h2 : un[i] > ln
      · rw [if_pos h2]; simp [show ¬ un[i] ≤ ln by omega]
      · rw [if_neg h2]
        have hw2 : wrap64 (2 * un[i]) = 2 * un[i] := by unfold wrap64; omega
        have hw3 : wrap64 (un[i] + 1) = un[i] + 1 := by unfold wrap64; omega
        rw [hw2, hw3, if_pos (by omega), if_pos (by omega)]
        have hrt : rd_T45 t (2 * un[i]) = nodeN t (2 * un[i]).toNat := by simp [rd_T45, nodeN]
        rw [hrt]
        by_cases h3 : (nodeN t (2 * un[i]).toNat).f0 = 0
        · rw [if_pos h3]; simp [h3]
        · rw [if_neg h3, ih (i + 1) (un[i] + 1) k (by omega) (by omega) (by omega)]
          simp [h3, show f ≤ un[i] by omega, show un[i] ≤ ln by omega]
theorem parent_at (t : List S45) (hv : lvsN t ≠ 0) (x : Nat) (hx : x < t.length) (hu : (nodeN t x).f3.length ≤ 9223372036854775807) : ∃ k, tree_parent.f k t (x : Int) = some (parentB t x) := by
  obtain ⟨h1, h2, h3, h4⟩ := lst_at t hv x hx
  refine ⟨(nodeN t x).f3.length + 2, ?_⟩
  unfold tree_parent.f parentB
  rw [if_pos (by omega), if_pos (by omega), rd_at]
  have hb := blank_at (nodeN t x)
  have hj : ∀ (k : Nat), tree_parent.j0 (k + 1) (x : Int) true t (nodeN t x).f0 (nodeN t x).f1 (nodeN t x).f2 (nodeN t x).f3 = some (blankB (nodeN t x)) := by
    intro k
    simp only [tree_parent.j0, if_true, hb, Option.bind_some]
  by_cases c0 : (nodeN t x).f0 < 1
  · rw [if_pos c0, if_pos (Or.inl c0)]; exact hj _
  · rw [if_neg c0]
    by_cases c1 : (nodeN t x).f1 = 0
    · rw [if_pos c1]
      by_cases c2 : (nodeN t x).f2 = 0
      · rw [if_neg (by omega)]
        simp only [tree_parent.j0, c2]
        rw [if_neg (by simp), span_at x h4]
        simp only [Option.bind_some]
        have := rising_at t (lstT.getD x 0) h2 h3 (nodeN t x).f3 hu (nodeN t x).f3.length 0 (fstT.getD x 0) ((nodeN t x).f3.length + 1) h1 (by omega) (by omega)
        simpa using this
      · rw [if_pos (Or.inr (Or.inr c2)), show ((nodeN t x).f2 != 0) = true from by simp [c2]]
        exact hj _
    · rw [if_neg c1, if_pos (Or.inr (Or.inl c1))]; exact hj _
def litI (v : Int) : Lit := .int .i64 v
def one1 : DataW Unit := .lit (.int .i64 1)
def zer0 : DataW Unit := .lit (.int .i64 0)
def metD (l : List Int) : DataW Unit := setOf one1 (l.map litI)
theorem metD_snoc (l : List Int) (v : Int) : metD (l ++ [v]) = (metD l).put (litI v) one1 := by simp [metD, List.map_append, setOf_snoc]
theorem isKey (v : Int) : WideAt.IsKeyLit (litI v) := by simp [WideAt.IsKeyLit, litI]
theorem isMap_metD (l : List Int) : IsMap (metD l) := (tidy_setOf one1 (l.map litI) (fun x hx => by obtain ⟨v, _, rfl⟩ := List.mem_map.1 hx; exact isKey v)).isMap
theorem met_at (v : Int) : ∀ (l : List Int), (metD l).atKey (litI v) zer0 = if v ∈ l then one1 else zer0 := by
  have key : ∀ (n : Nat) (l : List Int), l.length = n → (metD l).atKey (litI v) zer0 = if v ∈ l then one1 else zer0 := by
    intro n
    induction n with
    | zero => intro l hl; rw [List.eq_nil_of_length_eq_zero hl]; rfl
    | succ n ih =>
      intro l hl
      obtain ⟨l', u, rfl⟩ : ∃ l' u, l = l' ++ [u] := by
        rcases List.eq_nil_or_concat l with h | ⟨l', u, h⟩
        · subst h; simp at hl
        · exact ⟨l', u, by simpa using h⟩
      rw [metD_snoc]
      by_cases e : v = u
      · subst e
        rw [atKey_put_same (isMap_metD l') (isKey v)]
        simp
      · rw [atKey_put_other (by intro h; injection h with _ h; exact e h), ih l' (by simpa using hl)]
        simp [e]
  intro l
  exact key _ l rfl
theorem litI_inj {a b : Int} (h : (DataW.lit (Lit.int .i64 a) : DataW Unit) = .lit (.int .i64 b)) : a = b := by injection h with h; injection h
theorem memsTo_prefix (t : List S45) (k : Nat) : ∀ d, memsTo t k <+: memsTo t (k + d) := by
  intro d
  induction d with
  | zero => exact List.prefix_refl _
  | succ d ih =>
    rw [← Nat.add_assoc]
    simp only [memsTo]
    split
    · exact ih.trans (List.prefix_append _ _)
    · exact ih
theorem ok_not_fine {t : List S45} {x : Nat} (hx : x < t.length) (h : fineB t x = false) : okB t = false := by
  unfold okB
  have h1 : t.isEmpty = false := by cases t <;> simp at hx ⊢
  have h2 : (List.range t.length).all (fineB t) = false := by
    rw [List.all_eq_false]
    exact ⟨x, List.mem_range.2 hx, by simp [h]⟩
  simp [h1, h2]
theorem ok_dup {t : List S45} {k : Nat} (hk : k < t.length) (h : ¬ (memsTo t (k + 1)).Nodup) : okB t = false := by
  unfold okB
  have h1 : t.isEmpty = false := by cases t <;> simp at hk ⊢
  have h2 : ¬ (memsTo t t.length).Nodup := by
    intro hn
    have hp := memsTo_prefix t (k + 1) (t.length - (k + 1))
    rw [show k + 1 + (t.length - (k + 1)) = t.length by omega] at hp
    exact h (hn.sublist hp.sublist)
  simp [h1, h2]
theorem ok_end {t : List S45} (h0 : t.isEmpty = false) (hv : lvsN t ≠ 0) (hf : ∀ x, x < t.length → fineB t x = true) (hn : (memsTo t t.length).Nodup) : okB t = decide (((lvsN t / 2 : Nat) : Int) ≤ lastTo t t.length) := by
  unfold okB
  have h2 : (List.range t.length).all (fineB t) = true := List.all_eq_true.2 fun x hx => hf x (List.mem_range.1 hx)
  simp [h0, h2, hv, hn]
theorem lastTo_range (t : List S45) : ∀ k : Nat, -1 ≤ lastTo t k ∧ lastTo t k < (k : Int) := by
  intro k
  induction k with
  | zero => simp [lastTo]
  | succ k ih => simp only [lastTo]; split <;> omega
theorem memsTo_skip {t : List S45} {k : Nat} (h : tkB t k = false) : memsTo t (k + 1) = memsTo t k := by simp [memsTo, h]
theorem memsTo_take {t : List S45} {k : Nat} (h : tkB t k = true) : memsTo t (k + 1) = memsTo t k ++ [(nodeN t k).f1] := by simp [memsTo, h]
theorem lastTo_skip {t : List S45} {k : Nat} (h : tkB t k = false) : lastTo t (k + 1) = lastTo t k := by simp [lastTo, h]
theorem lastTo_take {t : List S45} {k : Nat} (h : tkB t k = true) : lastTo t (k + 1) = (k : Int) / 2 := by simp [lastTo, h]
theorem fine_to {t : List S45} {k : Nat} (h : ∀ x, x < k → fineB t x = true) (hk : fineB t k = true) : ∀ x, x < k + 1 → fineB t x = true := fun x hx => by
  rcases Nat.lt_succ_iff_lt_or_eq.1 hx with h1 | rfl
  · exact h x h1
  · exact hk
theorem nodup_snoc {l : List Int} {v : Int} (h : l.Nodup) (hv : v ∉ l) : (l ++ [v]).Nodup := by
  rw [List.nodup_append]
  exact ⟨h, by simp, fun a ha b hb => by rw [List.mem_singleton.1 hb]; rintro rfl; exact hv ha⟩
theorem not_nodup_snoc {l : List Int} {v : Int} (hv : v ∈ l) : ¬ (l ++ [v]).Nodup := by
  rw [List.nodup_append]
  rintro ⟨_, _, h⟩
  exact h v hv v (by simp) rfl
theorem met_first {l : List Int} {v c : Int} (h : (metD l).atKey (litI v) (.lit (.int .i64 0)) = .lit (.int .i64 c)) : (v ∈ l → c = 1) ∧ (v ∉ l → c = 0) := by
  have h2 := met_at v l
  rw [show zer0 = (.lit (.int .i64 0) : DataW Unit) from rfl, h] at h2
  exact ⟨fun hv => by rw [if_pos hv] at h2; exact litI_inj h2, fun hv => by rw [if_neg hv] at h2; exact litI_inj h2⟩
theorem met_then {l : List Int} {v c d : Int} (h : ((metD l).put (litI v) (.lit (.int .i64 d))).atKey (litI v) (.lit (.int .i64 0)) = .lit (.int .i64 c)) : c = d := by
  rw [atKey_put_same (isMap_metD l) (isKey v)] at h
  exact (litI_inj h).symm
theorem ckLaw : Keyed Tryd.prog 3 := int_keyed Tryd.underlying3
theorem ckZero (w : World) : (zeroValue 3).run Tryd.prog w = .ok (.int .i64 0) w := by kernel_rfl
set_option maxRecDepth 100000 in
theorem check_nil (A0 : Option Addr) (c0 : Nat) (w : World) :
    Calls Tryd.prog 10 #[.agg #[.slice A0 0 c0]] w fun e w' => e = .returned (.int .i64 0) ∧ Below w.heap.size w w' := by
  have hu45 := Tryd.underlying45
  have hu24 := Tryd.underlying24
  go_enter Tryd.func10, Tryd.ntmps10
  go_wp2
  go_ret
  exact ⟨rfl, below_alloc (Below.refl _ _) _⟩
set_option maxRecDepth 100000 in
theorem check_odd (A0 : Option Addr) (c0 : Nat) (t : List S45) (w : World) (HR : Aside0 (Kd.C k45 w A0 t.length t)) (HC : Aside0 (t.length ≤ c0)) (hne : ((t.length : Int) == 0) = false) (HL : Aside0 (tree_leaves.f t = some 0)) :
    Calls Tryd.prog 10 #[.agg #[.slice A0 t.length c0]] w fun e w' => e = .returned (.int .i64 1) ∧ Below w.heap.size w w' := by
  have hu45 := Tryd.underlying45
  have hu24 := Tryd.underlying24
  go_enter Tryd.func10, Tryd.ntmps10
  go_wp2_with (go_at_call 26; refine (tree_leaves.calls A0 _ t 0 _ (Kd.C_alloc HR.out _) HC.out HL.out).mono ?_; rintro e w1 ⟨rfl, hb⟩)
  go_ret
  exact ⟨rfl, below_box hb⟩
set_option maxRecDepth 100000 in
set_option maxHeartbeats 4000000 in
theorem check_walk (A0 : Option Addr) (c0 : Nat) (t : List S45) (w : World) (HR : Aside0 (Kd.C k45 w A0 t.length t)) (HC : Aside0 (t.length ≤ c0)) (hne : ((t.length : Int) == 0) = false) (n : Nat) (hn0 : ((n : Int) == 0) = false) (hn1 : (n : Int) ≤ 8) (HL : Aside0 (tree_leaves.f t = some (n : Int)))
    (HT : Aside0 (TabG w)) (HW : Aside0 (∀ x, wfI (nodeN t x).f1 = true)) (HN : Aside0 (n = lvsN t)) (ht : (t.length : Int) ≤ 15) (r : Int) (Hr : Aside0 ((if okB t = true then 0 else 1) = r)) :
    Calls Tryd.prog 10 #[.agg #[.slice A0 t.length c0]] w fun e w' => e = .returned (.int .i64 r) ∧ Below w.heap.size w w' := by
  have hu45 := Tryd.underlying45
  have hu24 := Tryd.underlying24
  have hmm := @run_makeMap Tryd.prog
  go_enter Tryd.func10, Tryd.ntmps10
  go_wp2_with (go_at_call 26; refine (tree_leaves.calls A0 _ t n _ (Kd.C_alloc HR.out _) HC.out HL.out).mono ?_; rintro e w1 ⟨rfl, hb⟩; have hbx : w1.cell? ⟨w.heap.size, 0, none⟩ = some (.slice A0 t.length c0) := box_cell hb 0 _ rfl; have hbx2 := cell_alloc hbx (Obj.map #[] 0); have hs0 : w.heap.size < w1.heap.size := cell_lt hbx; have HB := Aside0.mk (below_box hb); clear hb)
  go_loopw [5, 20] (fun v5 v20 wr => ∃ k : Nat, k ≤ t.length ∧ v20 = .int .i64 k ∧ v5 = .int .i64 (lastTo t k) ∧ Aside0 (∀ x, x < k → fineB t x = true) ∧ Aside0 ((memsTo t k).Nodup) ∧ Aside0 (wr.ownsMap Tryd.prog 3 (plainElem Tryd.prog 3) w1.heap.size k (metD (memsTo t k))) ∧ wr.cell? ⟨w.heap.size, 0, none⟩ = some (.slice A0 t.length c0) ∧ Aside0 (Below w.heap.size w wr) ∧ Aside0 (w1.heap.size < wr.heap.size))
    (fun _ v20 _ => t.length - (intOf v20).toNat)
  case atStart => exact ⟨0, Nat.zero_le _, rfl, rfl, ⟨fun x hx => absurd hx (by omega)⟩, ⟨by simp [memsTo]⟩, ⟨World.ownsMap_made _ _ _ _⟩, hbx2, ⟨below_alloc HB.out _⟩, ⟨by simp⟩⟩
  case round =>
    clear HB hbx hbx2
    obtain ⟨k, hk, rfl, rfl, HF, HD, HM, hbr, HB, HS⟩ := hrel
    have hlr := lastTo_range t k
    by_cases hlt : k < t.length
    · have Hno : fineB t k = false → r = 1 := fun h => by rw [← Hr.out, ok_not_fine hlt h]; rfl
      obtain ⟨ad, A3, c3, e3, x0, x1, x2, x3, hl3, hi3⟩ := at_T45 HR.out (k : Int) (by omega) (by omega)
      rw [rd_at] at x0 x1 x2 x3 hl3 hi3
      rw [Int.toNat_natCast] at x0 x1 x2 x3
      cases e3
      replace x0 := (HB.out.cell (World.block_lt_of_cell? w _ x0)).trans x0
      replace x1 := (HB.out.cell (World.block_lt_of_cell? w _ x1)).trans x1
      replace x2 := (HB.out.cell (World.block_lt_of_cell? w _ x2)).trans x2
      replace x3 := (HB.out.cell (World.block_lt_of_cell? w _ x3)).trans x3
      have HR3 := Aside0.mk (Kd.C_below hi3 HB.out)
      have HC3 := Aside0.mk hl3
      have HL3 : (nodeN t k).f3.length ≤ 9223372036854775807 := hi3.2.1
      clear hi3 hl3
      have HTr := Aside0.mk (HT.out.below HB.out)
      have hbrA := cell_alloc hbr (Obj.cells #[.int .i64 (nodeN t k).f0, .int .i64 (nodeN t k).f1, .int .i64 (nodeN t k).f2, .slice A3 (nodeN t k).f3.length c3] 45)
      by_cases hodd : k % 2 = 1
      · obtain ⟨kf, hpar⟩ := parent_at t (by have := HN.out; intro h; rw [h] at this; subst this; exact absurd hn0 (by decide)) k hlt HL3
        have hm : ((k : Int) % 2 == 1) = true := beq_iff_eq.mpr (by omega)
        have HRr := Aside0.mk (Kd.C_below HR.out HB.out)
        have hfin : fineB t k = parentB t k := by unfold fineB; rw [if_pos hodd]
        cases hp : parentB t k with
        | true =>
          rw [hp] at hpar
          have HP := Aside0.mk hpar
          have HF2 := Aside0.mk (fine_to HF.out (hfin.trans hp))
          have htk : tkB t k = false := by simp [tkB, hodd]
          have HMS := Aside0.mk (memsTo_skip htk)
          have HLS := Aside0.mk (lastTo_skip htk)
          clear hpar hp htk hfin hodd Hno
          go_wp2_with (go_at_call 27; refine (tree_parent.calls kf (some ad) c0 t k true _ (Kd.C_alloc HRr.out _) HC.out (HTr.out.alloc _) HP.out).mono ?_; rintro e w2 ⟨rfl, hb2⟩; have HB2 := Aside0.mk (HB.out.trans ((below_box hb2).mono HB.out.size)); have HM2 := Aside0.mk (World.ownsMap.kept (HM.out.alloc (Obj.cells #[.int .i64 (nodeN t k).f0, .int .i64 (nodeN t k).f1, .int .i64 (nodeN t k).f2, .slice A3 (nodeN t k).f3.length c3] 45)) (grown_of_below hb2 none) (by simp)); have hbr2 := pw_cell_below (below_box hb2) hbr; have HS2 := Aside0.mk (Nat.lt_of_lt_of_le HS.out (below_box hb2).size); clear hb2)
          go_roundw
          case rel => exact ⟨k + 1, by omega, by go_num, by rw [HLS.out], HF2, by rw [HMS.out]; exact HD, ⟨by rw [HMS.out]; exact HM2.out.mono (Nat.le_succ _)⟩, hbr2, HB2, HS2⟩
          case measure => simp [intOf]; omega
        | false =>
          rw [hp] at hpar
          have HP := Aside0.mk hpar
          have HE := Aside0.mk (Hno (hfin.trans hp))
          clear hpar hp hfin hodd Hno
          go_wp2_with (go_at_call 27; refine (tree_parent.calls kf (some ad) c0 t k false _ (Kd.C_alloc HRr.out _) HC.out (HTr.out.alloc _) HP.out).mono ?_; rintro e w2 ⟨rfl, hb2⟩; have HB2 := Aside0.mk (HB.out.trans ((below_box hb2).mono HB.out.size)); have HM2 := Aside0.mk (World.ownsMap.kept (HM.out.alloc (Obj.cells #[.int .i64 (nodeN t k).f0, .int .i64 (nodeN t k).f1, .int .i64 (nodeN t k).f2, .slice A3 (nodeN t k).f3.length c3] 45)) (grown_of_below hb2 none) (by simp)); have hbr2 := pw_cell_below (below_box hb2) hbr; have HS2 := Aside0.mk (Nat.lt_of_lt_of_le HS.out (below_box hb2).size); clear hb2)
          go_ret
          exact ⟨by rw [HE.out]; rfl, HB2.out⟩
      · have hm : ((k : Int) % 2 == 1) = false := beq_eq_false_iff_ne.mpr (by omega)
        have hfin : fineB t k = leafB (nodeN t k) := by unfold fineB; rw [if_neg hodd]
        have hbl := blank_at (nodeN t k)
        have he2 : k % 2 = 0 := by omega
        cases hp : blankB (nodeN t k) with
        | true =>
          rw [hp] at hbl
          have HP := Aside0.mk hbl
          have HF2 := Aside0.mk (fine_to HF.out (hfin.trans (by unfold leafB; rw [hp]; rfl)))
          have htk : tkB t k = false := by simp [tkB, hp]
          have HMS := Aside0.mk (memsTo_skip htk)
          have HLS := Aside0.mk (lastTo_skip htk)
          clear hbl hp htk hfin hodd Hno he2
          go_wp2_with (go_at_call 28; refine (tree_blank.calls _ _ _ A3 c3 _ true _ (Kd.C_alloc HR3.out _) HC3.out HP.out).mono ?_; rintro e w2 ⟨rfl, hb2⟩; have HB2 := Aside0.mk (HB.out.trans ((below_box hb2).mono HB.out.size)); have HM2 := Aside0.mk (World.ownsMap.kept (HM.out.alloc (Obj.cells #[.int .i64 (nodeN t k).f0, .int .i64 (nodeN t k).f1, .int .i64 (nodeN t k).f2, .slice A3 (nodeN t k).f3.length c3] 45)) (grown_of_below hb2 none) (by simp)); have hbr2 := pw_cell_below (below_box hb2) hbr; have HS2 := Aside0.mk (Nat.lt_of_lt_of_le HS.out (below_box hb2).size); have y0 : w2.cell? ⟨wr.heap.size, 0, none⟩ = some (.int .i64 (nodeN t k).f0) := box_cell hb2 0 _ rfl; have y1 : w2.cell? ⟨wr.heap.size, 1, none⟩ = some (.int .i64 (nodeN t k).f1) := box_cell hb2 1 _ rfl; have y2 : w2.cell? ⟨wr.heap.size, 2, none⟩ = some (.int .i64 (nodeN t k).f2) := box_cell hb2 2 _ rfl; have y3 : w2.cell? ⟨wr.heap.size, 3, none⟩ = some (.slice A3 (nodeN t k).f3.length c3) := box_cell hb2 3 _ rfl; clear hb2)
          go_roundw
          case rel => exact ⟨k + 1, by omega, by go_num, by rw [HLS.out], HF2, by rw [HMS.out]; exact HD, ⟨by rw [HMS.out]; exact HM2.out.mono (Nat.le_succ _)⟩, hbr2, HB2, HS2⟩
          case measure => simp [intOf]; omega
        | false =>
          rw [hp] at hbl
          have HP := Aside0.mk hbl
          have htk : tkB t k = true := by simp [tkB, hp, he2]
          have HMS := Aside0.mk (memsTo_take htk)
          have HLS := Aside0.mk (lastTo_take htk)
          have hkey : keyOf Tryd.prog 3 (.int .i64 (nodeN t k).f1) = some (litI (nodeN t k).f1) := keyOf_int_mk Tryd.underlying3 (HW.out k)
          have HK := Aside0.mk hkey
          clear hbl htk hodd he2 hkey
          have tok1 := True.intro
          have HVor : Aside0 ((nodeN t k).f1 ∈ memsTo t k ∨ (nodeN t k).f1 ∉ memsTo t k) := ⟨by by_cases h : (nodeN t k).f1 ∈ memsTo t k; exact .inl h; exact .inr h⟩
          have hlf : leafB (nodeN t k) = (decide (1 ≤ (nodeN t k).f0) && decide (0 ≤ (nodeN t k).f1) && decide (0 ≤ (nodeN t k).f2) && (nodeN t k).f3.isEmpty) := by unfold leafB; rw [hp]; rfl
          rw [hlf] at hfin
          clear hlf hp
          by_cases q0 : (nodeN t k).f0 < 1
          · have HE := Aside0.mk (Hno (by rw [hfin, decide_eq_false (by omega)]; rfl))
            clear hfin Hno
            rcases HVor.out with hv | hv
            · have HV := Aside0.mk hv
              clear hv
              go_wp2_with (first | (go_at_call 28; refine (tree_blank.calls _ _ _ A3 c3 _ false _ (Kd.C_alloc HR3.out _) HC3.out HP.out).mono ?_; rintro e w2 ⟨rfl, hb2⟩; have HB2 := Aside0.mk (HB.out.trans ((below_box hb2).mono HB.out.size)); have HM2 := Aside0.mk (World.ownsMap.kept (HM.out.alloc (Obj.cells #[.int .i64 (nodeN t k).f0, .int .i64 (nodeN t k).f1, .int .i64 (nodeN t k).f2, .slice A3 (nodeN t k).f3.length c3] 45)) (grown_of_below hb2 none) (by simp)); have hbr2 := pw_cell_below (below_box hb2) hbr; have HS2 := Aside0.mk (Nat.lt_of_lt_of_le HS.out (below_box hb2).size); have y0 : w2.cell? ⟨wr.heap.size, 0, none⟩ = some (.int .i64 (nodeN t k).f0) := box_cell hb2 0 _ rfl; have y1 : w2.cell? ⟨wr.heap.size, 1, none⟩ = some (.int .i64 (nodeN t k).f1) := box_cell hb2 1 _ rfl; have y2 : w2.cell? ⟨wr.heap.size, 2, none⟩ = some (.int .i64 (nodeN t k).f2) := box_cell hb2 2 _ rfl; have y3 : w2.cell? ⟨wr.heap.size, 3, none⟩ = some (.slice A3 (nodeN t k).f3.length c3) := box_cell hb2 3 _ rfl; clear hb2) | (at_lookup; have _t := tok1; refine wpList_lookup_own_int _ rfl _ _ 57 rfl 3 3 .i64 ckLaw Tryd.underlying57 Tryd.underlying3 (ckZero _) w1.heap.size k _ rfl HM2.out _ _ rfl HK.out ?_; intro c hat hwc; obtain rfl : c = 1 := (met_first hat).1 HV.out; clear hat hwc tok1 _t) | (at_mapUpdate; refine wpList_mapUpdate_own _ rfl _ _ _ 57 rfl 3 3 ckLaw Tryd.underlying57 _ w1.heap.size k _ rfl HM2.out (by unfold maxLen; omega) _ _ _ rfl rfl HK.out _ [] (plainElem_int Tryd.underlying3 (by decide)) ?_; intro w3 hown3 hgrow3; have HM3 := Aside0.mk hown3; have tok2 := True.intro; have z0 := hgrow3.cell y0 (by have := HS.out; simp; omega); have z1 := hgrow3.cell y1 (by have := HS.out; simp; omega); have z2 := hgrow3.cell y2 (by have := HS.out; simp; omega); have z3 := hgrow3.cell y3 (by have := HS.out; simp; omega); have hbr3 := hgrow3.cell hbr2 (by simp; omega); have HB3 := Aside0.mk (pw_below_grown HB2.out (some w1.heap.size) HB2.out.size hgrow3 (fun j hj => by cases hj; omega)); have HS3 := Aside0.mk (Nat.lt_of_lt_of_le HS2.out hgrow3.size); clear hown3 hgrow3))
              go_ret
              exact ⟨by rw [HE.out]; rfl, HB3.out⟩
            · have HV := Aside0.mk hv
              clear hv
              go_wp2_with (first | (go_at_call 28; refine (tree_blank.calls _ _ _ A3 c3 _ false _ (Kd.C_alloc HR3.out _) HC3.out HP.out).mono ?_; rintro e w2 ⟨rfl, hb2⟩; have HB2 := Aside0.mk (HB.out.trans ((below_box hb2).mono HB.out.size)); have HM2 := Aside0.mk (World.ownsMap.kept (HM.out.alloc (Obj.cells #[.int .i64 (nodeN t k).f0, .int .i64 (nodeN t k).f1, .int .i64 (nodeN t k).f2, .slice A3 (nodeN t k).f3.length c3] 45)) (grown_of_below hb2 none) (by simp)); have hbr2 := pw_cell_below (below_box hb2) hbr; have HS2 := Aside0.mk (Nat.lt_of_lt_of_le HS.out (below_box hb2).size); have y0 : w2.cell? ⟨wr.heap.size, 0, none⟩ = some (.int .i64 (nodeN t k).f0) := box_cell hb2 0 _ rfl; have y1 : w2.cell? ⟨wr.heap.size, 1, none⟩ = some (.int .i64 (nodeN t k).f1) := box_cell hb2 1 _ rfl; have y2 : w2.cell? ⟨wr.heap.size, 2, none⟩ = some (.int .i64 (nodeN t k).f2) := box_cell hb2 2 _ rfl; have y3 : w2.cell? ⟨wr.heap.size, 3, none⟩ = some (.slice A3 (nodeN t k).f3.length c3) := box_cell hb2 3 _ rfl; clear hb2) | (at_lookup; have _t := tok1; refine wpList_lookup_own_int _ rfl _ _ 57 rfl 3 3 .i64 ckLaw Tryd.underlying57 Tryd.underlying3 (ckZero _) w1.heap.size k _ rfl HM2.out _ _ rfl HK.out ?_; intro c hat hwc; obtain rfl : c = 0 := (met_first hat).2 HV.out; clear hat hwc tok1 _t) | (at_mapUpdate; refine wpList_mapUpdate_own _ rfl _ _ _ 57 rfl 3 3 ckLaw Tryd.underlying57 _ w1.heap.size k _ rfl HM2.out (by unfold maxLen; omega) _ _ _ rfl rfl HK.out _ [] (plainElem_int Tryd.underlying3 (by decide)) ?_; intro w3 hown3 hgrow3; have HM3 := Aside0.mk hown3; have tok2 := True.intro; have z0 := hgrow3.cell y0 (by have := HS.out; simp; omega); have z1 := hgrow3.cell y1 (by have := HS.out; simp; omega); have z2 := hgrow3.cell y2 (by have := HS.out; simp; omega); have z3 := hgrow3.cell y3 (by have := HS.out; simp; omega); have hbr3 := hgrow3.cell hbr2 (by simp; omega); have HB3 := Aside0.mk (pw_below_grown HB2.out (some w1.heap.size) HB2.out.size hgrow3 (fun j hj => by cases hj; omega)); have HS3 := Aside0.mk (Nat.lt_of_lt_of_le HS2.out hgrow3.size); clear hown3 hgrow3))
              go_ret
              exact ⟨by rw [HE.out]; rfl, HB3.out⟩
          · by_cases q1 : (nodeN t k).f1 < 0
            · have HE := Aside0.mk (Hno (by rw [hfin, decide_eq_false (show ¬ 0 ≤ (nodeN t k).f1 by omega)]; simp))
              clear hfin Hno
              rcases HVor.out with hv | hv
              · have HV := Aside0.mk hv
                clear hv
                go_wp2_with (first | (go_at_call 28; refine (tree_blank.calls _ _ _ A3 c3 _ false _ (Kd.C_alloc HR3.out _) HC3.out HP.out).mono ?_; rintro e w2 ⟨rfl, hb2⟩; have HB2 := Aside0.mk (HB.out.trans ((below_box hb2).mono HB.out.size)); have HM2 := Aside0.mk (World.ownsMap.kept (HM.out.alloc (Obj.cells #[.int .i64 (nodeN t k).f0, .int .i64 (nodeN t k).f1, .int .i64 (nodeN t k).f2, .slice A3 (nodeN t k).f3.length c3] 45)) (grown_of_below hb2 none) (by simp)); have hbr2 := pw_cell_below (below_box hb2) hbr; have HS2 := Aside0.mk (Nat.lt_of_lt_of_le HS.out (below_box hb2).size); have y0 : w2.cell? ⟨wr.heap.size, 0, none⟩ = some (.int .i64 (nodeN t k).f0) := box_cell hb2 0 _ rfl; have y1 : w2.cell? ⟨wr.heap.size, 1, none⟩ = some (.int .i64 (nodeN t k).f1) := box_cell hb2 1 _ rfl; have y2 : w2.cell? ⟨wr.heap.size, 2, none⟩ = some (.int .i64 (nodeN t k).f2) := box_cell hb2 2 _ rfl; have y3 : w2.cell? ⟨wr.heap.size, 3, none⟩ = some (.slice A3 (nodeN t k).f3.length c3) := box_cell hb2 3 _ rfl; clear hb2) | (at_lookup; have _t := tok1; refine wpList_lookup_own_int _ rfl _ _ 57 rfl 3 3 .i64 ckLaw Tryd.underlying57 Tryd.underlying3 (ckZero _) w1.heap.size k _ rfl HM2.out _ _ rfl HK.out ?_; intro c hat hwc; obtain rfl : c = 1 := (met_first hat).1 HV.out; clear hat hwc tok1 _t) | (at_mapUpdate; refine wpList_mapUpdate_own _ rfl _ _ _ 57 rfl 3 3 ckLaw Tryd.underlying57 _ w1.heap.size k _ rfl HM2.out (by unfold maxLen; omega) _ _ _ rfl rfl HK.out _ [] (plainElem_int Tryd.underlying3 (by decide)) ?_; intro w3 hown3 hgrow3; have HM3 := Aside0.mk hown3; have tok2 := True.intro; have z0 := hgrow3.cell y0 (by have := HS.out; simp; omega); have z1 := hgrow3.cell y1 (by have := HS.out; simp; omega); have z2 := hgrow3.cell y2 (by have := HS.out; simp; omega); have z3 := hgrow3.cell y3 (by have := HS.out; simp; omega); have hbr3 := hgrow3.cell hbr2 (by simp; omega); have HB3 := Aside0.mk (pw_below_grown HB2.out (some w1.heap.size) HB2.out.size hgrow3 (fun j hj => by cases hj; omega)); have HS3 := Aside0.mk (Nat.lt_of_lt_of_le HS2.out hgrow3.size); clear hown3 hgrow3))
                go_ret
                exact ⟨by rw [HE.out]; rfl, HB3.out⟩
              · have HV := Aside0.mk hv
                clear hv
                go_wp2_with (first | (go_at_call 28; refine (tree_blank.calls _ _ _ A3 c3 _ false _ (Kd.C_alloc HR3.out _) HC3.out HP.out).mono ?_; rintro e w2 ⟨rfl, hb2⟩; have HB2 := Aside0.mk (HB.out.trans ((below_box hb2).mono HB.out.size)); have HM2 := Aside0.mk (World.ownsMap.kept (HM.out.alloc (Obj.cells #[.int .i64 (nodeN t k).f0, .int .i64 (nodeN t k).f1, .int .i64 (nodeN t k).f2, .slice A3 (nodeN t k).f3.length c3] 45)) (grown_of_below hb2 none) (by simp)); have hbr2 := pw_cell_below (below_box hb2) hbr; have HS2 := Aside0.mk (Nat.lt_of_lt_of_le HS.out (below_box hb2).size); have y0 : w2.cell? ⟨wr.heap.size, 0, none⟩ = some (.int .i64 (nodeN t k).f0) := box_cell hb2 0 _ rfl; have y1 : w2.cell? ⟨wr.heap.size, 1, none⟩ = some (.int .i64 (nodeN t k).f1) := box_cell hb2 1 _ rfl; have y2 : w2.cell? ⟨wr.heap.size, 2, none⟩ = some (.int .i64 (nodeN t k).f2) := box_cell hb2 2 _ rfl; have y3 : w2.cell? ⟨wr.heap.size, 3, none⟩ = some (.slice A3 (nodeN t k).f3.length c3) := box_cell hb2 3 _ rfl; clear hb2) | (at_lookup; have _t := tok1; refine wpList_lookup_own_int _ rfl _ _ 57 rfl 3 3 .i64 ckLaw Tryd.underlying57 Tryd.underlying3 (ckZero _) w1.heap.size k _ rfl HM2.out _ _ rfl HK.out ?_; intro c hat hwc; obtain rfl : c = 0 := (met_first hat).2 HV.out; clear hat hwc tok1 _t) | (at_mapUpdate; refine wpList_mapUpdate_own _ rfl _ _ _ 57 rfl 3 3 ckLaw Tryd.underlying57 _ w1.heap.size k _ rfl HM2.out (by unfold maxLen; omega) _ _ _ rfl rfl HK.out _ [] (plainElem_int Tryd.underlying3 (by decide)) ?_; intro w3 hown3 hgrow3; have HM3 := Aside0.mk hown3; have tok2 := True.intro; have z0 := hgrow3.cell y0 (by have := HS.out; simp; omega); have z1 := hgrow3.cell y1 (by have := HS.out; simp; omega); have z2 := hgrow3.cell y2 (by have := HS.out; simp; omega); have z3 := hgrow3.cell y3 (by have := HS.out; simp; omega); have hbr3 := hgrow3.cell hbr2 (by simp; omega); have HB3 := Aside0.mk (pw_below_grown HB2.out (some w1.heap.size) HB2.out.size hgrow3 (fun j hj => by cases hj; omega)); have HS3 := Aside0.mk (Nat.lt_of_lt_of_le HS2.out hgrow3.size); clear hown3 hgrow3))
                go_ret
                exact ⟨by rw [HE.out]; rfl, HB3.out⟩
            · by_cases q2 : (nodeN t k).f2 < 0
              · have HE := Aside0.mk (Hno (by rw [hfin, decide_eq_false (show ¬ 0 ≤ (nodeN t k).f2 by omega)]; simp))
                clear hfin Hno
                rcases HVor.out with hv | hv
                · have HV := Aside0.mk hv
                  clear hv
                  go_wp2_with (first | (go_at_call 28; refine (tree_blank.calls _ _ _ A3 c3 _ false _ (Kd.C_alloc HR3.out _) HC3.out HP.out).mono ?_; rintro e w2 ⟨rfl, hb2⟩; have HB2 := Aside0.mk (HB.out.trans ((below_box hb2).mono HB.out.size)); have HM2 := Aside0.mk (World.ownsMap.kept (HM.out.alloc (Obj.cells #[.int .i64 (nodeN t k).f0, .int .i64 (nodeN t k).f1, .int .i64 (nodeN t k).f2, .slice A3 (nodeN t k).f3.length c3] 45)) (grown_of_below hb2 none) (by simp)); have hbr2 := pw_cell_below (below_box hb2) hbr; have HS2 := Aside0.mk (Nat.lt_of_lt_of_le HS.out (below_box hb2).size); have y0 : w2.cell? ⟨wr.heap.size, 0, none⟩ = some (.int .i64 (nodeN t k).f0) := box_cell hb2 0 _ rfl; have y1 : w2.cell? ⟨wr.heap.size, 1, none⟩ = some (.int .i64 (nodeN t k).f1) := box_cell hb2 1 _ rfl; have y2 : w2.cell? ⟨wr.heap.size, 2, none⟩ = some (.int .i64 (nodeN t k).f2) := box_cell hb2 2 _ rfl; have y3 : w2.cell? ⟨wr.heap.size, 3, none⟩ = some (.slice A3 (nodeN t k).f3.length c3) := box_cell hb2 3 _ rfl; clear hb2) | (at_lookup; have _t := tok1; refine wpList_lookup_own_int _ rfl _ _ 57 rfl 3 3 .i64 ckLaw Tryd.underlying57 Tryd.underlying3 (ckZero _) w1.heap.size k _ rfl HM2.out _ _ rfl HK.out ?_; intro c hat hwc; obtain rfl : c = 1 := (met_first hat).1 HV.out; clear hat hwc tok1 _t) | (at_mapUpdate; refine wpList_mapUpdate_own _ rfl _ _ _ 57 rfl 3 3 ckLaw Tryd.underlying57 _ w1.heap.size k _ rfl HM2.out (by unfold maxLen; omega) _ _ _ rfl rfl HK.out _ [] (plainElem_int Tryd.underlying3 (by decide)) ?_; intro w3 hown3 hgrow3; have HM3 := Aside0.mk hown3; have tok2 := True.intro; have z0 := hgrow3.cell y0 (by have := HS.out; simp; omega); have z1 := hgrow3.cell y1 (by have := HS.out; simp; omega); have z2 := hgrow3.cell y2 (by have := HS.out; simp; omega); have z3 := hgrow3.cell y3 (by have := HS.out; simp; omega); have hbr3 := hgrow3.cell hbr2 (by simp; omega); have HB3 := Aside0.mk (pw_below_grown HB2.out (some w1.heap.size) HB2.out.size hgrow3 (fun j hj => by cases hj; omega)); have HS3 := Aside0.mk (Nat.lt_of_lt_of_le HS2.out hgrow3.size); clear hown3 hgrow3))
                  go_ret
                  exact ⟨by rw [HE.out]; rfl, HB3.out⟩
                · have HV := Aside0.mk hv
                  clear hv
                  go_wp2_with (first | (go_at_call 28; refine (tree_blank.calls _ _ _ A3 c3 _ false _ (Kd.C_alloc HR3.out _) HC3.out HP.out).mono ?_; rintro e w2 ⟨rfl, hb2⟩; have HB2 := Aside0.mk (HB.out.trans ((below_box hb2).mono HB.out.size)); have HM2 := Aside0.mk (World.ownsMap.kept (HM.out.alloc (Obj.cells #[.int .i64 (nodeN t k).f0, .int .i64 (nodeN t k).f1, .int .i64 (nodeN t k).f2, .slice A3 (nodeN t k).f3.length c3] 45)) (grown_of_below hb2 none) (by simp)); have hbr2 := pw_cell_below (below_box hb2) hbr; have HS2 := Aside0.mk (Nat.lt_of_lt_of_le HS.out (below_box hb2).size); have y0 : w2.cell? ⟨wr.heap.size, 0, none⟩ = some (.int .i64 (nodeN t k).f0) := box_cell hb2 0 _ rfl; have y1 : w2.cell? ⟨wr.heap.size, 1, none⟩ = some (.int .i64 (nodeN t k).f1) := box_cell hb2 1 _ rfl; have y2 : w2.cell? ⟨wr.heap.size, 2, none⟩ = some (.int .i64 (nodeN t k).f2) := box_cell hb2 2 _ rfl; have y3 : w2.cell? ⟨wr.heap.size, 3, none⟩ = some (.slice A3 (nodeN t k).f3.length c3) := box_cell hb2 3 _ rfl; clear hb2) | (at_lookup; have _t := tok1; refine wpList_lookup_own_int _ rfl _ _ 57 rfl 3 3 .i64 ckLaw Tryd.underlying57 Tryd.underlying3 (ckZero _) w1.heap.size k _ rfl HM2.out _ _ rfl HK.out ?_; intro c hat hwc; obtain rfl : c = 0 := (met_first hat).2 HV.out; clear hat hwc tok1 _t) | (at_mapUpdate; refine wpList_mapUpdate_own _ rfl _ _ _ 57 rfl 3 3 ckLaw Tryd.underlying57 _ w1.heap.size k _ rfl HM2.out (by unfold maxLen; omega) _ _ _ rfl rfl HK.out _ [] (plainElem_int Tryd.underlying3 (by decide)) ?_; intro w3 hown3 hgrow3; have HM3 := Aside0.mk hown3; have tok2 := True.intro; have z0 := hgrow3.cell y0 (by have := HS.out; simp; omega); have z1 := hgrow3.cell y1 (by have := HS.out; simp; omega); have z2 := hgrow3.cell y2 (by have := HS.out; simp; omega); have z3 := hgrow3.cell y3 (by have := HS.out; simp; omega); have hbr3 := hgrow3.cell hbr2 (by simp; omega); have HB3 := Aside0.mk (pw_below_grown HB2.out (some w1.heap.size) HB2.out.size hgrow3 (fun j hj => by cases hj; omega)); have HS3 := Aside0.mk (Nat.lt_of_lt_of_le HS2.out hgrow3.size); clear hown3 hgrow3))
                  go_ret
                  exact ⟨by rw [HE.out]; rfl, HB3.out⟩
              · by_cases q3 : 0 < (nodeN t k).f3.length
                · have q3i : (0 : Int) < ((nodeN t k).f3.length : Int) := by omega
                  have HE := Aside0.mk (Hno (by rw [hfin, show (nodeN t k).f3.isEmpty = false from by cases h : (nodeN t k).f3; (rw [h] at q3; simp at q3); rfl]; simp))
                  clear hfin Hno
                  rcases HVor.out with hv | hv
                  · have HV := Aside0.mk hv
                    clear hv
                    go_wp2_with (first | (go_at_call 28; refine (tree_blank.calls _ _ _ A3 c3 _ false _ (Kd.C_alloc HR3.out _) HC3.out HP.out).mono ?_; rintro e w2 ⟨rfl, hb2⟩; have HB2 := Aside0.mk (HB.out.trans ((below_box hb2).mono HB.out.size)); have HM2 := Aside0.mk (World.ownsMap.kept (HM.out.alloc (Obj.cells #[.int .i64 (nodeN t k).f0, .int .i64 (nodeN t k).f1, .int .i64 (nodeN t k).f2, .slice A3 (nodeN t k).f3.length c3] 45)) (grown_of_below hb2 none) (by simp)); have hbr2 := pw_cell_below (below_box hb2) hbr; have HS2 := Aside0.mk (Nat.lt_of_lt_of_le HS.out (below_box hb2).size); have y0 : w2.cell? ⟨wr.heap.size, 0, none⟩ = some (.int .i64 (nodeN t k).f0) := box_cell hb2 0 _ rfl; have y1 : w2.cell? ⟨wr.heap.size, 1, none⟩ = some (.int .i64 (nodeN t k).f1) := box_cell hb2 1 _ rfl; have y2 : w2.cell? ⟨wr.heap.size, 2, none⟩ = some (.int .i64 (nodeN t k).f2) := box_cell hb2 2 _ rfl; have y3 : w2.cell? ⟨wr.heap.size, 3, none⟩ = some (.slice A3 (nodeN t k).f3.length c3) := box_cell hb2 3 _ rfl; clear hb2) | (at_lookup; have _t := tok1; refine wpList_lookup_own_int _ rfl _ _ 57 rfl 3 3 .i64 ckLaw Tryd.underlying57 Tryd.underlying3 (ckZero _) w1.heap.size k _ rfl HM2.out _ _ rfl HK.out ?_; intro c hat hwc; obtain rfl : c = 1 := (met_first hat).1 HV.out; clear hat hwc tok1 _t) | (at_mapUpdate; refine wpList_mapUpdate_own _ rfl _ _ _ 57 rfl 3 3 ckLaw Tryd.underlying57 _ w1.heap.size k _ rfl HM2.out (by unfold maxLen; omega) _ _ _ rfl rfl HK.out _ [] (plainElem_int Tryd.underlying3 (by decide)) ?_; intro w3 hown3 hgrow3; have HM3 := Aside0.mk hown3; have tok2 := True.intro; have z0 := hgrow3.cell y0 (by have := HS.out; simp; omega); have z1 := hgrow3.cell y1 (by have := HS.out; simp; omega); have z2 := hgrow3.cell y2 (by have := HS.out; simp; omega); have z3 := hgrow3.cell y3 (by have := HS.out; simp; omega); have hbr3 := hgrow3.cell hbr2 (by simp; omega); have HB3 := Aside0.mk (pw_below_grown HB2.out (some w1.heap.size) HB2.out.size hgrow3 (fun j hj => by cases hj; omega)); have HS3 := Aside0.mk (Nat.lt_of_lt_of_le HS2.out hgrow3.size); clear hown3 hgrow3))
                    go_ret
                    exact ⟨by rw [HE.out]; rfl, HB3.out⟩
                  · have HV := Aside0.mk hv
                    clear hv
                    go_wp2_with (first | (go_at_call 28; refine (tree_blank.calls _ _ _ A3 c3 _ false _ (Kd.C_alloc HR3.out _) HC3.out HP.out).mono ?_; rintro e w2 ⟨rfl, hb2⟩; have HB2 := Aside0.mk (HB.out.trans ((below_box hb2).mono HB.out.size)); have HM2 := Aside0.mk (World.ownsMap.kept (HM.out.alloc (Obj.cells #[.int .i64 (nodeN t k).f0, .int .i64 (nodeN t k).f1, .int .i64 (nodeN t k).f2, .slice A3 (nodeN t k).f3.length c3] 45)) (grown_of_below hb2 none) (by simp)); have hbr2 := pw_cell_below (below_box hb2) hbr; have HS2 := Aside0.mk (Nat.lt_of_lt_of_le HS.out (below_box hb2).size); have y0 : w2.cell? ⟨wr.heap.size, 0, none⟩ = some (.int .i64 (nodeN t k).f0) := box_cell hb2 0 _ rfl; have y1 : w2.cell? ⟨wr.heap.size, 1, none⟩ = some (.int .i64 (nodeN t k).f1) := box_cell hb2 1 _ rfl; have y2 : w2.cell? ⟨wr.heap.size, 2, none⟩ = some (.int .i64 (nodeN t k).f2) := box_cell hb2 2 _ rfl; have y3 : w2.cell? ⟨wr.heap.size, 3, none⟩ = some (.slice A3 (nodeN t k).f3.length c3) := box_cell hb2 3 _ rfl; clear hb2) | (at_lookup; have _t := tok1; refine wpList_lookup_own_int _ rfl _ _ 57 rfl 3 3 .i64 ckLaw Tryd.underlying57 Tryd.underlying3 (ckZero _) w1.heap.size k _ rfl HM2.out _ _ rfl HK.out ?_; intro c hat hwc; obtain rfl : c = 0 := (met_first hat).2 HV.out; clear hat hwc tok1 _t) | (at_mapUpdate; refine wpList_mapUpdate_own _ rfl _ _ _ 57 rfl 3 3 ckLaw Tryd.underlying57 _ w1.heap.size k _ rfl HM2.out (by unfold maxLen; omega) _ _ _ rfl rfl HK.out _ [] (plainElem_int Tryd.underlying3 (by decide)) ?_; intro w3 hown3 hgrow3; have HM3 := Aside0.mk hown3; have tok2 := True.intro; have z0 := hgrow3.cell y0 (by have := HS.out; simp; omega); have z1 := hgrow3.cell y1 (by have := HS.out; simp; omega); have z2 := hgrow3.cell y2 (by have := HS.out; simp; omega); have z3 := hgrow3.cell y3 (by have := HS.out; simp; omega); have hbr3 := hgrow3.cell hbr2 (by simp; omega); have HB3 := Aside0.mk (pw_below_grown HB2.out (some w1.heap.size) HB2.out.size hgrow3 (fun j hj => by cases hj; omega)); have HS3 := Aside0.mk (Nat.lt_of_lt_of_le HS2.out hgrow3.size); clear hown3 hgrow3))
                    go_ret
                    exact ⟨by rw [HE.out]; rfl, HB3.out⟩
                · have q3i : ¬ (0 : Int) < ((nodeN t k).f3.length : Int) := by omega
                  have HF2 := Aside0.mk (fine_to HF.out (by rw [hfin, show (nodeN t k).f3.isEmpty = true from by cases h : (nodeN t k).f3; rfl; rw [h] at q3; simp at q3]; simp; omega))
                  clear hfin Hno
                  rcases HVor.out with hv | hv
                  · have HV := Aside0.mk hv
                    have HE : Aside0 (r = 1) := ⟨by rw [← Hr.out, ok_dup hlt (by rw [HMS.out]; exact not_nodup_snoc hv)]; rfl⟩
                    clear hv
                    go_wp2_with (first | (go_at_call 28; refine (tree_blank.calls _ _ _ A3 c3 _ false _ (Kd.C_alloc HR3.out _) HC3.out HP.out).mono ?_; rintro e w2 ⟨rfl, hb2⟩; have HB2 := Aside0.mk (HB.out.trans ((below_box hb2).mono HB.out.size)); have HM2 := Aside0.mk (World.ownsMap.kept (HM.out.alloc (Obj.cells #[.int .i64 (nodeN t k).f0, .int .i64 (nodeN t k).f1, .int .i64 (nodeN t k).f2, .slice A3 (nodeN t k).f3.length c3] 45)) (grown_of_below hb2 none) (by simp)); have hbr2 := pw_cell_below (below_box hb2) hbr; have HS2 := Aside0.mk (Nat.lt_of_lt_of_le HS.out (below_box hb2).size); have y0 : w2.cell? ⟨wr.heap.size, 0, none⟩ = some (.int .i64 (nodeN t k).f0) := box_cell hb2 0 _ rfl; have y1 : w2.cell? ⟨wr.heap.size, 1, none⟩ = some (.int .i64 (nodeN t k).f1) := box_cell hb2 1 _ rfl; have y2 : w2.cell? ⟨wr.heap.size, 2, none⟩ = some (.int .i64 (nodeN t k).f2) := box_cell hb2 2 _ rfl; have y3 : w2.cell? ⟨wr.heap.size, 3, none⟩ = some (.slice A3 (nodeN t k).f3.length c3) := box_cell hb2 3 _ rfl; clear hb2) | (at_lookup; have _t := tok1; refine wpList_lookup_own_int _ rfl _ _ 57 rfl 3 3 .i64 ckLaw Tryd.underlying57 Tryd.underlying3 (ckZero _) w1.heap.size k _ rfl HM2.out _ _ rfl HK.out ?_; intro c hat hwc; obtain rfl : c = 1 := (met_first hat).1 HV.out; clear hat hwc tok1 _t) | (at_mapUpdate; refine wpList_mapUpdate_own _ rfl _ _ _ 57 rfl 3 3 ckLaw Tryd.underlying57 _ w1.heap.size k _ rfl HM2.out (by unfold maxLen; omega) _ _ _ rfl rfl HK.out _ [] (plainElem_int Tryd.underlying3 (by decide)) ?_; intro w3 hown3 hgrow3; have HM3 := Aside0.mk hown3; have tok2 := True.intro; have z0 := hgrow3.cell y0 (by have := HS.out; simp; omega); have z1 := hgrow3.cell y1 (by have := HS.out; simp; omega); have z2 := hgrow3.cell y2 (by have := HS.out; simp; omega); have z3 := hgrow3.cell y3 (by have := HS.out; simp; omega); have hbr3 := hgrow3.cell hbr2 (by simp; omega); have HB3 := Aside0.mk (pw_below_grown HB2.out (some w1.heap.size) HB2.out.size hgrow3 (fun j hj => by cases hj; omega)); have HS3 := Aside0.mk (Nat.lt_of_lt_of_le HS2.out hgrow3.size); clear hown3 hgrow3) | (at_lookup; have _t := tok2; (refine gate_guard (by first | rfl | (simp [Region.wanted, yielded, q3]; omega)) ?_; dsimp only; refine wpList_lookup_own_int _ rfl _ _ 57 rfl 3 3 .i64 ckLaw Tryd.underlying57 Tryd.underlying3 (ckZero _) w1.heap.size (k + 1) _ rfl HM3.out _ _ rfl HK.out ?_); intro c hat hwc; obtain rfl : c = 2 := met_then hat; clear hat hwc tok2 _t))
                    go_ret
                    exact ⟨by rw [HE.out]; rfl, HB3.out⟩
                  · have HV := Aside0.mk hv
                    have HD2 := Aside0.mk (nodup_snoc HD.out hv)
                    clear hv
                    go_wp2_with (first | (go_at_call 28; refine (tree_blank.calls _ _ _ A3 c3 _ false _ (Kd.C_alloc HR3.out _) HC3.out HP.out).mono ?_; rintro e w2 ⟨rfl, hb2⟩; have HB2 := Aside0.mk (HB.out.trans ((below_box hb2).mono HB.out.size)); have HM2 := Aside0.mk (World.ownsMap.kept (HM.out.alloc (Obj.cells #[.int .i64 (nodeN t k).f0, .int .i64 (nodeN t k).f1, .int .i64 (nodeN t k).f2, .slice A3 (nodeN t k).f3.length c3] 45)) (grown_of_below hb2 none) (by simp)); have hbr2 := pw_cell_below (below_box hb2) hbr; have HS2 := Aside0.mk (Nat.lt_of_lt_of_le HS.out (below_box hb2).size); have y0 : w2.cell? ⟨wr.heap.size, 0, none⟩ = some (.int .i64 (nodeN t k).f0) := box_cell hb2 0 _ rfl; have y1 : w2.cell? ⟨wr.heap.size, 1, none⟩ = some (.int .i64 (nodeN t k).f1) := box_cell hb2 1 _ rfl; have y2 : w2.cell? ⟨wr.heap.size, 2, none⟩ = some (.int .i64 (nodeN t k).f2) := box_cell hb2 2 _ rfl; have y3 : w2.cell? ⟨wr.heap.size, 3, none⟩ = some (.slice A3 (nodeN t k).f3.length c3) := box_cell hb2 3 _ rfl; clear hb2) | (at_lookup; have _t := tok1; refine wpList_lookup_own_int _ rfl _ _ 57 rfl 3 3 .i64 ckLaw Tryd.underlying57 Tryd.underlying3 (ckZero _) w1.heap.size k _ rfl HM2.out _ _ rfl HK.out ?_; intro c hat hwc; obtain rfl : c = 0 := (met_first hat).2 HV.out; clear hat hwc tok1 _t) | (at_mapUpdate; refine wpList_mapUpdate_own _ rfl _ _ _ 57 rfl 3 3 ckLaw Tryd.underlying57 _ w1.heap.size k _ rfl HM2.out (by unfold maxLen; omega) _ _ _ rfl rfl HK.out _ [] (plainElem_int Tryd.underlying3 (by decide)) ?_; intro w3 hown3 hgrow3; have HM3 := Aside0.mk hown3; have tok2 := True.intro; have z0 := hgrow3.cell y0 (by have := HS.out; simp; omega); have z1 := hgrow3.cell y1 (by have := HS.out; simp; omega); have z2 := hgrow3.cell y2 (by have := HS.out; simp; omega); have z3 := hgrow3.cell y3 (by have := HS.out; simp; omega); have hbr3 := hgrow3.cell hbr2 (by simp; omega); have HB3 := Aside0.mk (pw_below_grown HB2.out (some w1.heap.size) HB2.out.size hgrow3 (fun j hj => by cases hj; omega)); have HS3 := Aside0.mk (Nat.lt_of_lt_of_le HS2.out hgrow3.size); clear hown3 hgrow3) | (at_lookup; have _t := tok2; (refine gate_guard (by first | rfl | (simp [Region.wanted, yielded, q3]; omega)) ?_; dsimp only; refine wpList_lookup_own_int _ rfl _ _ 57 rfl 3 3 .i64 ckLaw Tryd.underlying57 Tryd.underlying3 (ckZero _) w1.heap.size (k + 1) _ rfl HM3.out _ _ rfl HK.out ?_); intro c hat hwc; obtain rfl : c = 1 := met_then hat; clear hat hwc tok2 _t))
                    go_roundw
                    case rel => exact ⟨k + 1, by omega, by go_num, by rw [HLS.out], HF2, by rw [HMS.out]; exact HD2, ⟨by rw [HMS.out, metD_snoc]; exact HM3.out⟩, hbr3, HB3, HS3⟩
                    case measure => simp [intOf]; omega
    · obtain rfl : k = t.length := by omega
      have hee : t.isEmpty = false := by cases t; simp at hne; rfl
      have hend := ok_end hee (by have := HN.out; intro h; rw [h] at this; subst this; exact absurd hn0 (by decide)) HF.out HD.out
      rw [← HN.out] at hend
      by_cases hl : lastTo t t.length < ((n / 2 : Nat) : Int)
      · have HE : Aside0 (r = 1) := ⟨by rw [← Hr.out, hend, decide_eq_false (by omega)]; rfl⟩
        clear hend
        go_wp2
        go_ret
        exact ⟨by rw [HE.out]; rfl, HB.out⟩
      · have HE : Aside0 (r = 0) := ⟨by rw [← Hr.out, hend, decide_eq_true (by omega)]; rfl⟩
        clear hend
        go_wp2
        go_ret
        exact ⟨by rw [HE.out]; rfl, HB.out⟩
theorem tree_Check.calls (A0_0 : Option Addr) (c0_0 : Nat) (l0_0 : List S45) (r : Int) (w : World) (hr0_0 : Kd.C k45 w A0_0 l0_0.length l0_0) (hc0_0 : l0_0.length ≤ c0_0) (hT : TabG w) (h : tree_Check.f l0_0 = some r) :
    Calls Tryd.prog 10 #[.agg #[.slice A0_0 l0_0.length c0_0]] w fun e w' => e = .returned (.int .i64 r) ∧ Below w.heap.size w w' := by
  unfold tree_Check.f at h
  by_cases hw : l0_0.all (fun n => wfI n.f1) = true
  · rw [if_pos hw] at h
    have hr := Option.some.inj h
    have hlen : l0_0.length ≤ 9223372036854775807 := hr0_0.2.1
    have hl := leaves_at l0_0 hlen
    by_cases he : l0_0 = []
    · subst he
      have : r = 0 := by rw [← hr]; rfl
      subst this
      exact check_nil A0_0 c0_0 w
    · have h0 : l0_0.isEmpty = false := by cases l0_0; exact absurd rfl he; rfl
      have hne : ((l0_0.length : Int) == 0) = false := by
        rw [beq_eq_false_iff_ne]
        intro e
        exact he (List.eq_nil_of_length_eq_zero (by omega))
      by_cases hv : lvsN l0_0 = 0
      · have : r = 1 := by rw [← hr]; unfold okB; simp [h0, hv]
        subst this
        rw [hv] at hl
        exact check_odd A0_0 c0_0 l0_0 w ⟨hr0_0⟩ ⟨hc0_0⟩ hne ⟨hl⟩
      · have hb := lst_at l0_0 hv 0 (by cases l0_0; exact absurd rfl he; simp)
        have h8 : lvsN l0_0 ≤ 8 := by unfold lvsN; split <;> (try split) <;> (try split) <;> (try split) <;> omega
        refine check_walk A0_0 c0_0 l0_0 w ⟨hr0_0⟩ ⟨hc0_0⟩ hne (lvsN l0_0) (by rw [beq_eq_false_iff_ne]; omega) (by omega) ⟨hl⟩ ⟨hT⟩ ⟨fun x => ?_⟩ ⟨rfl⟩ (by omega) r ⟨hr⟩
        unfold nodeN
        by_cases hx : x < l0_0.length
        · rw [List.getD_eq_getElem?_getD, List.getElem?_eq_getElem hx]
          exact List.all_eq_true.1 hw _ (List.getElem_mem hx)
        · rw [List.getD_eq_getElem?_getD, List.getElem?_eq_none (by omega)]
          decide
  · rw [if_neg hw] at h; cases h
end
def tree_Size.f (l0_0 : List (S45)) : Option (Int) := (tree_Check.f l0_0).bind fun t120 => (if t120 = 0 then ((tree_leaves.f l0_0).bind fun t121 => (some t121)) else (some 0))
set_option maxHeartbeats 8000000 in
set_option maxRecDepth 100000 in
theorem tree_Size.calls (A0_0 : Option Addr) (c0_0 : Nat) (l0_0 : List (S45)) (r : Int) (w : World) (hr0_0 : Kd.C k45 w A0_0 l0_0.length l0_0) (hc0_0 : l0_0.length ≤ c0_0) (hT : TabG w) (h : tree_Size.f l0_0 = some r) :
    Calls Tryd.prog 20 #[.agg #[.slice A0_0 l0_0.length c0_0]] w fun e w' => e = .returned (.int .i64 r) ∧ Below w.heap.size w w' := by
  have hu24 := Tryd.underlying24
  have HR0_0 := Aside0.mk hr0_0
  have HC0_0 := Aside0.mk hc0_0
  clear hr0_0 hc0_0
  have HB := Aside0.mk (Below.refl w.heap.size w)
  have HT := Aside0.mk hT
  clear hT
  have H : ((tree_Check.f l0_0).bind fun t120 => (if t120 = 0 then ((tree_leaves.f l0_0).bind fun t121 => (some t121)) else (some 0))) = some r := h
  clear h
  replace H := Option.bind_eq_some_iff.mp H
  obtain ⟨t120, A20, H⟩ := H
  replace H : (if t120 = 0 then ((tree_leaves.f l0_0).bind fun t121 => (some t121)) else (some 0)) = some r := H
  have A2 := Aside0.mk A20
  clear A20
  by_cases c3 : t120 = 0
  · rw [if_pos c3] at H
    have c3b0 : (t120 == 0) = true := beq_iff_eq.mpr c3
    have c3b1 : (t120 != 0) = false := bne_eq_false_iff_eq.mpr c3
    clear c3
    replace H := Option.bind_eq_some_iff.mp H
    obtain ⟨t121, A40, H⟩ := H
    replace H : (some t121) = some r := H
    have A4 := Aside0.mk A40
    clear A40
    obtain rfl := Option.some.inj H
    go_enter Tryd.func20, Tryd.ntmps20
    go_wp2_with (first | ((with_reducible refine gate_dst (N := 1) rfl ?_); refine box_event ?hg (N := 1) ?hd (cs := #[.slice A0_0 l0_0.length c0_0]) (t := 24) ?hr ?_; (case hd => rfl); (case hg => rfl); (case hr => first | (go_simp; done) | (go_simp; rfl)); intro gb119 hg w5 hbox hb; have n0_ := Aside0.mk (below_step (by repeat (first | (with_reducible first | exact HB.out | apply below_alloc | apply pw_below_drewN | apply below_drew1) | exact HB.out)) hb); have n1_ := Aside0.mk (hbox); have n2_ := Aside0.mk ((by rw [hg]; exact (below_size (by repeat (first | (with_reducible first | exact HB.out | apply below_alloc | apply pw_below_drewN | apply below_drew1) | exact HB.out))) : w.heap.size ≤ gb119)); have n3_ := Aside0.mk ((by rw [hg]; exact (below_size (by repeat (first | (with_reducible first | exact HB.out | apply below_alloc | apply pw_below_drewN | apply below_drew1) | exact HB.out))) : w.heap.size ≤ gb119)); clear HB; have HB := n0_; have BK119 := n1_; have GW119 := n2_; have GE119 := n3_; clear n0_ n1_ n2_ n3_; clear hb hbox hg; have hcz6_0 : w5.cell? ⟨gb119, 0, none⟩ = some (.slice A0_0 l0_0.length c0_0) := (blk_cell BK119.out 0).trans rfl; have hfz6_0 := blk_frozen BK119.out 0) | ((with_reducible refine gate_callee (f := 10) rfl ?_); refine goesL_ (some 4) rfl rfl Tryd.func10 (by kernel_rfl) rfl #[.agg #[.slice A0_0 l0_0.length c0_0]] rfl (by (try simp only [List.map_toArray, List.map_cons, List.map_nil]); first | done | rfl | (simp only [List.length_drop, List.length_take]; rfl)) ?_; (with_reducible refine (tree_Check.calls _ _ l0_0 t120 _ ?side1 ?side2 ?side3 A2.out).mono ?_); (case side1 => repeat (first | exact (Kd.C_below HR0_0.out HB.out) | (with_reducible refine Kd.C_alloc ?_ _) | (with_reducible refine Kd.C_drewN ?_ _) | (with_reducible refine Kd.C_drew ?_))); (case side2 => exact HC0_0.out); (case side3 => repeat (first | exact HT.out | exact TabG.below HT.out HB.out | (with_reducible refine TabG.alloc ?_ _) | (with_reducible refine TabG.drewN ?_ _) | (with_reducible refine TabG.drew ?_) | exact TabG.below HT.out (by repeat (first | (with_reducible first | exact HB.out | apply below_alloc | apply pw_below_drewN | apply below_drew1 | refine below_set ?_ GE119.out) | exact HB.out)))); rintro e w7 ⟨rfl, hb⟩; refine ⟨_, rfl, ?_⟩; have n0_ := Aside0.mk (blk_below (g := gb119) (o := .cells #[.slice A0_0 l0_0.length c0_0] 24 (0, 0)) (by (with_reducible repeat (first | refine blk_drewN ?_ _ | refine blk_drew ?_ | refine blk_alloc ?_ _)); exact BK119.out) hb); have n1_ := Aside0.mk (below_step (by repeat (first | (with_reducible first | exact HB.out | apply below_alloc | apply pw_below_drewN | apply below_drew1 | refine below_set ?_ GE119.out) | exact HB.out)) hb); clear BK119; clear HB; have BK119 := n0_; have HB := n1_; clear n0_ n1_; (try clear hb); (try clear hb2); (try clear hk); (try clear hi); have hcz8_0 : w7.cell? ⟨gb119, 0, none⟩ = some (.slice A0_0 l0_0.length c0_0) := (blk_cell BK119.out 0).trans rfl; have hfz8_0 := blk_frozen BK119.out 0) | ((with_reducible refine gate_callee (f := 26) rfl ?_); refine goesL_ (some 7) rfl rfl Tryd.func26 (by kernel_rfl) rfl #[.agg #[.slice A0_0 l0_0.length c0_0]] rfl (by (try simp only [List.map_toArray, List.map_cons, List.map_nil]); first | done | rfl | (simp only [List.length_drop, List.length_take]; rfl)) ?_; (with_reducible refine (tree_leaves.calls _ _ l0_0 t121 _ ?side1 ?side2 A4.out).mono ?_); (case side1 => repeat (first | exact (Kd.C_below HR0_0.out HB.out) | (with_reducible refine Kd.C_alloc ?_ _) | (with_reducible refine Kd.C_drewN ?_ _) | (with_reducible refine Kd.C_drew ?_))); (case side2 => exact HC0_0.out); rintro e w9 ⟨rfl, hb⟩; refine ⟨_, rfl, ?_⟩; have n0_ := Aside0.mk (blk_below (g := gb119) (o := .cells #[.slice A0_0 l0_0.length c0_0] 24 (0, 0)) (by (with_reducible repeat (first | refine blk_drewN ?_ _ | refine blk_drew ?_ | refine blk_alloc ?_ _)); exact BK119.out) hb); have n1_ := Aside0.mk (below_step (by repeat (first | (with_reducible first | exact HB.out | apply below_alloc | apply pw_below_drewN | apply below_drew1 | refine below_set ?_ GE119.out) | exact HB.out)) hb); clear BK119; clear HB; have BK119 := n0_; have HB := n1_; clear n0_ n1_; (try clear hb); (try clear hb2); (try clear hk); (try clear hi)))
    go_ret
    exact ⟨by first | rfl | (simp [errW_none, errW_some] <;> rfl) | (simp [*, errW_none, errW_some] <;> rfl), by repeat (first | (with_reducible first | exact HB.out | apply below_alloc | apply pw_below_drewN | apply below_drew1 | refine below_set ?_ GE119.out) | exact HB.out)⟩
  · rw [if_neg c3] at H
    have c3b0 : (t120 == 0) = false := beq_eq_false_iff_ne.mpr c3
    have c3b1 : (t120 != 0) = true := bne_iff_ne.mpr c3
    obtain rfl := Option.some.inj H
    go_enter Tryd.func20, Tryd.ntmps20
    go_wp2_with (first | ((with_reducible refine gate_dst (N := 1) rfl ?_); refine box_event ?hg (N := 1) ?hd (cs := #[.slice A0_0 l0_0.length c0_0]) (t := 24) ?hr ?_; (case hd => rfl); (case hg => rfl); (case hr => first | (go_simp; done) | (go_simp; rfl)); intro gb119 hg w10 hbox hb; have n0_ := Aside0.mk (below_step (by repeat (first | (with_reducible first | exact HB.out | apply below_alloc | apply pw_below_drewN | apply below_drew1) | exact HB.out)) hb); have n1_ := Aside0.mk (hbox); have n2_ := Aside0.mk ((by rw [hg]; exact (below_size (by repeat (first | (with_reducible first | exact HB.out | apply below_alloc | apply pw_below_drewN | apply below_drew1) | exact HB.out))) : w.heap.size ≤ gb119)); have n3_ := Aside0.mk ((by rw [hg]; exact (below_size (by repeat (first | (with_reducible first | exact HB.out | apply below_alloc | apply pw_below_drewN | apply below_drew1) | exact HB.out))) : w.heap.size ≤ gb119)); clear HB; have HB := n0_; have BK119 := n1_; have GW119 := n2_; have GE119 := n3_; clear n0_ n1_ n2_ n3_; clear hb hbox hg; have hcz11_0 : w10.cell? ⟨gb119, 0, none⟩ = some (.slice A0_0 l0_0.length c0_0) := (blk_cell BK119.out 0).trans rfl; have hfz11_0 := blk_frozen BK119.out 0) | ((with_reducible refine gate_callee (f := 10) rfl ?_); refine goesL_ (some 4) rfl rfl Tryd.func10 (by kernel_rfl) rfl #[.agg #[.slice A0_0 l0_0.length c0_0]] rfl (by (try simp only [List.map_toArray, List.map_cons, List.map_nil]); first | done | rfl | (simp only [List.length_drop, List.length_take]; rfl)) ?_; (with_reducible refine (tree_Check.calls _ _ l0_0 t120 _ ?side1 ?side2 ?side3 A2.out).mono ?_); (case side1 => repeat (first | exact (Kd.C_below HR0_0.out HB.out) | (with_reducible refine Kd.C_alloc ?_ _) | (with_reducible refine Kd.C_drewN ?_ _) | (with_reducible refine Kd.C_drew ?_))); (case side2 => exact HC0_0.out); (case side3 => repeat (first | exact HT.out | exact TabG.below HT.out HB.out | (with_reducible refine TabG.alloc ?_ _) | (with_reducible refine TabG.drewN ?_ _) | (with_reducible refine TabG.drew ?_) | exact TabG.below HT.out (by repeat (first | (with_reducible first | exact HB.out | apply below_alloc | apply pw_below_drewN | apply below_drew1 | refine below_set ?_ GE119.out) | exact HB.out)))); rintro e w12 ⟨rfl, hb⟩; refine ⟨_, rfl, ?_⟩; have n0_ := Aside0.mk (blk_below (g := gb119) (o := .cells #[.slice A0_0 l0_0.length c0_0] 24 (0, 0)) (by (with_reducible repeat (first | refine blk_drewN ?_ _ | refine blk_drew ?_ | refine blk_alloc ?_ _)); exact BK119.out) hb); have n1_ := Aside0.mk (below_step (by repeat (first | (with_reducible first | exact HB.out | apply below_alloc | apply pw_below_drewN | apply below_drew1 | refine below_set ?_ GE119.out) | exact HB.out)) hb); clear BK119; clear HB; have BK119 := n0_; have HB := n1_; clear n0_ n1_; (try clear hb); (try clear hb2); (try clear hk); (try clear hi)))
    go_ret
    exact ⟨by first | rfl | (simp [errW_none, errW_some] <;> rfl) | (simp [*, errW_none, errW_some] <;> rfl), by repeat (first | (with_reducible first | exact HB.out | apply below_alloc | apply pw_below_drewN | apply below_drew1 | refine below_set ?_ GE119.out) | exact HB.out)⟩
def tree_Members.l0 : Nat → List Int → Int → Int → List (S45) → Option (List Int)
  | 0, _, _, _, _ => none
  | k + 1, x3, x7, x8, x123000 => if x8 < x7 then (if 0 ≤ (wrap64 (2 * x8)) then (if (wrap64 (2 * x8)) < (x123000.length : Int) then (if ((rd_T45 x123000 (wrap64 (2 * x8))).f0) > 0 then (if x3.length < 17592186044416 then (tree_Members.l0 k (x3 ++ [(rd_T45 x123000 (wrap64 (2 * x8))).f1]) x7 (wrap64 (x8 + 1)) x123000) else (none)) else (tree_Members.l0 k x3 x7 (wrap64 (x8 + 1)) x123000)) else (none)) else (none)) else (some x3)
def tree_Members.f (k : Nat) (l0_0 : List (S45)) : Option (List Int) := (tree_Size.f l0_0).bind fun t123 => (tree_Members.l0 k ([] : List Int) t123 0 l0_0)
theorem tree_Members.mono_l : ∀ k, (∀ y0 y1 y2 y3, LeO (tree_Members.l0 k y0 y1 y2 y3) (tree_Members.l0 (k + 1) y0 y1 y2 y3))
  | 0 => fun _ _ _ _ r h => by simp [tree_Members.l0] at h
  | k + 1 => by
    have ih0 := tree_Members.mono_l k
    · intro y0 y1 y2 y3
      unfold tree_Members.l0
      repeat' first
      | (with_reducible exact ih0 _ _ _ _)
      | (with_reducible exact LeO.refl _)
      | (with_reducible exact LeO.none _)
      | (with_reducible refine LeO.ite ?_ ?_)
      | (with_reducible refine LeO.bind ?_ (fun _ => ?_))
      | exact ih0 _ _ _ _
      | exact LeO.none _
      | refine LeO.ite ?_ ?_
      | refine LeO.bind ?_ (fun _ => ?_)
theorem tree_Members.mono : ∀ a0 k, LeO (tree_Members.f k a0) (tree_Members.f (k + 1) a0) := by
  intro a0 k
  have ih0 := tree_Members.mono_l k
  unfold tree_Members.f
  repeat' first
      | (with_reducible exact ih0 _ _ _ _)
      | (with_reducible exact LeO.refl _)
      | (with_reducible exact LeO.none _)
      | (with_reducible refine LeO.ite ?_ ?_)
      | (with_reducible refine LeO.bind ?_ (fun _ => ?_))
      | exact ih0 _ _ _ _
      | exact LeO.none _
      | refine LeO.ite ?_ ?_
      | refine LeO.bind ?_ (fun _ => ?_)
set_option maxHeartbeats 8000000 in
set_option maxRecDepth 100000 in
theorem tree_Members.calls (k : Nat) (A0_0 : Option Addr) (c0_0 : Nat) (l0_0 : List (S45)) (r : List Int) (w : World) (hr0_0 : Kd.C k45 w A0_0 l0_0.length l0_0) (hc0_0 : l0_0.length ≤ c0_0) (hT : TabG w) (h : tree_Members.f k l0_0 = some r) :
    Calls Tryd.prog 12 #[.agg #[.slice A0_0 l0_0.length c0_0]] w fun e w' => ∃ v0_ : Value, e = .returned (v0_) ∧ Kd.R (Kd.int .i64) 3 w' w.heap.size (fun _ => True) v0_ r ∧ Below w.heap.size w w' := by
  have hu24 := Tryd.underlying24
  have hu45 := Tryd.underlying45
  have HR0_0 := Aside0.mk hr0_0
  have HC0_0 := Aside0.mk hc0_0
  clear hr0_0 hc0_0
  have HB := Aside0.mk (Below.refl w.heap.size w)
  have HT := Aside0.mk hT
  clear hT
  have H : ((tree_Size.f l0_0).bind fun t123 => (tree_Members.l0 k ([] : List Int) t123 0 l0_0)) = some r := h
  clear h
  replace H := Option.bind_eq_some_iff.mp H
  obtain ⟨t123, A20, H⟩ := H
  replace H : (tree_Members.l0 k ([] : List Int) t123 0 l0_0) = some r := H
  have A2 := Aside0.mk A20
  clear A20
  have H' := Aside0.mk H
  clear H
  go_enter Tryd.func12, Tryd.ntmps12
  go_wp2_with (first | ((with_reducible refine gate_dst (N := 1) rfl ?_); refine box_event ?hg (N := 1) ?hd (cs := #[.slice A0_0 l0_0.length c0_0]) (t := 24) ?hr ?_; (case hd => rfl); (case hg => rfl); (case hr => first | (go_simp; done) | (go_simp; rfl)); intro gb122 hg w3 hbox hb; have n0_ := Aside0.mk (below_step (by repeat (first | (with_reducible first | exact HB.out | apply below_alloc | apply pw_below_drewN | apply below_drew1) | exact HB.out)) hb); have n1_ := Aside0.mk (hbox); have n2_ := Aside0.mk ((by rw [hg]; exact (below_size (by repeat (first | (with_reducible first | exact HB.out | apply below_alloc | apply pw_below_drewN | apply below_drew1) | exact HB.out))) : w.heap.size ≤ gb122)); have n3_ := Aside0.mk ((by rw [hg]; exact (below_size (by repeat (first | (with_reducible first | exact HB.out | apply below_alloc | apply pw_below_drewN | apply below_drew1) | exact HB.out))) : w.heap.size ≤ gb122)); clear HB; have HB := n0_; have BK122 := n1_; have GW122 := n2_; have GE122 := n3_; clear n0_ n1_ n2_ n3_; clear hb hbox hg; have hcz4_0 : w3.cell? ⟨gb122, 0, none⟩ = some (.slice A0_0 l0_0.length c0_0) := (blk_cell BK122.out 0).trans rfl; have hfz4_0 := blk_frozen BK122.out 0) | ((with_reducible refine gate_callee (f := 20) rfl ?_); refine goesL_ (some 7) rfl rfl Tryd.func20 (by kernel_rfl) rfl #[.agg #[.slice A0_0 l0_0.length c0_0]] rfl (by (try simp only [List.map_toArray, List.map_cons, List.map_nil]); first | done | rfl | (simp only [List.length_drop, List.length_take]; rfl)) ?_; (with_reducible refine (tree_Size.calls _ _ l0_0 t123 _ ?side1 ?side2 ?side3 A2.out).mono ?_); (case side1 => repeat (first | exact (Kd.C_below HR0_0.out HB.out) | (with_reducible refine Kd.C_alloc ?_ _) | (with_reducible refine Kd.C_drewN ?_ _) | (with_reducible refine Kd.C_drew ?_))); (case side2 => exact HC0_0.out); (case side3 => repeat (first | exact HT.out | exact TabG.below HT.out HB.out | (with_reducible refine TabG.alloc ?_ _) | (with_reducible refine TabG.drewN ?_ _) | (with_reducible refine TabG.drew ?_) | exact TabG.below HT.out (by repeat (first | (with_reducible first | exact HB.out | apply below_alloc | apply pw_below_drewN | apply below_drew1 | refine below_set ?_ GE122.out) | exact HB.out)))); rintro e w5 ⟨rfl, hb⟩; refine ⟨_, rfl, ?_⟩; have n0_ := Aside0.mk (blk_below (g := gb122) (o := .cells #[.slice A0_0 l0_0.length c0_0] 24 (0, 0)) (by (with_reducible repeat (first | refine blk_drewN ?_ _ | refine blk_drew ?_ | refine blk_alloc ?_ _)); exact BK122.out) hb); have n1_ := Aside0.mk (below_step (by repeat (first | (with_reducible first | exact HB.out | apply below_alloc | apply pw_below_drewN | apply below_drew1 | refine below_set ?_ GE122.out) | exact HB.out)) hb); clear BK122; clear HB; have BK122 := n0_; have HB := n1_; clear n0_ n1_; (try clear hb); (try clear hb2); (try clear hk); (try clear hi)))
  go_loopg [3, 8] k (fun kq v3 v8 w' => ∃ (x3_1 : List Int) (x8_1 : Int), v8 = .int .i64 x8_1 ∧ Aside0 (tree_Members.l0 kq x3_1 t123 x8_1 l0_0 = some r) ∧ Aside0 (kq ≤ k) ∧ Aside0 (Kd.R (Kd.int .i64) 3 w' w.heap.size (fun _ => True) v3 x3_1) ∧ Aside0 (w'.heap[gb122]? = some (.cells #[(.slice A0_0 l0_0.length c0_0)] 24 (0, 0))) ∧ Aside0 (Below w.heap.size w w'))
  case atStart => exact ⟨(([] : List Int)), (0), (by first | rfl | (simp; done) | (simp [*]; done)), H', ⟨Nat.le_refl _⟩, ⟨by first | exact Kd.R_nil _ _ _ _ _ | exact Kd.N_nil _ _ _ _ _ | exact Kd.V_nil _ _ _ _ _ | exact Kd.Q_nil _ _ _ _ _ | exact Kd.S_nil _ _ _ _ _⟩, ⟨by (with_reducible repeat (first | refine blk_drewN ?_ _ | refine blk_drew ?_ | refine blk_alloc ?_ _)); exact BK122.out⟩, ⟨by repeat (first | (with_reducible first | exact HB.out | apply below_alloc | apply pw_below_drewN | apply below_drew1 | refine below_set ?_ GE122.out) | exact HB.out)⟩⟩
  case round =>
    clear H'
    try clear c1
    try clear c2
    try clear p2
    try clear hcz4_0
    try clear hfz4_0
    obtain ⟨x3_1, x8_1, rfl, HA, HK1, HO_3, BK122, HB⟩ := hrel
    cases gk with
    | zero => exact absurd HA.out (by simp [tree_Members.l0])
    | succ k1 =>
      have H := HA.out
      clear HA
      simp only [tree_Members.l0] at H
      by_cases c6 : x8_1 < t123
      · rw [if_pos c6] at H
        have c6b0 : decide (x8_1 < t123) = true := decide_eq_true c6
        clear c6
        obtain ⟨ji7, hji7⟩ : ∃ j_ : Int, (wrap64 (2 * x8_1)) = j_ := ⟨_, rfl⟩
        replace H : (if 0 ≤ (ji7) then (if (ji7) < (l0_0.length : Int) then (if ((rd_T45 l0_0 (ji7)).f0) > 0 then (if x3_1.length < 17592186044416 then (tree_Members.l0 k1 (x3_1 ++ [(rd_T45 l0_0 (ji7)).f1]) t123 (wrap64 (x8_1 + 1)) l0_0) else (none)) else (tree_Members.l0 k1 x3_1 t123 (wrap64 (x8_1 + 1)) l0_0)) else (none)) else (none)) = some r := by first | (rw [hji7] at H; exact H) | (simp only [hji7] at H ⊢; exact H)
        have hji7w : (IntKind.i64.wrap (2 * x8_1)) = ji7 := (i64_w _).trans hji7
        by_cases c8 : 0 ≤ (ji7)
        · rw [if_pos c8] at H
          have c8b0 : decide (0 ≤ (ji7)) = true := decide_eq_true c8
          clear c8
          by_cases c9 : (ji7) < (l0_0.length : Int)
          · rw [if_pos c9] at H
            have c9b0 : decide ((ji7) < (l0_0.length : Int)) = true := decide_eq_true c9
            clear c9
            by_cases c10 : ((rd_T45 l0_0 (ji7)).f0) > 0
            · rw [if_pos c10] at H
              have c10b0 : decide (0 < ((rd_T45 l0_0 (ji7)).f0)) = true := decide_eq_true c10
              clear c10
              by_cases c11 : x3_1.length < 17592186044416
              · rw [if_pos c11] at H
                have LMc11 := Aside0.mk c11
                clear c11
                obtain ⟨y126, hy126⟩ : ∃ y_ : List Int, y_ = (x3_1 ++ [(rd_T45 l0_0 (ji7)).f1]) := ⟨_, rfl⟩
                replace H : (tree_Members.l0 k1 y126 t123 (wrap64 (x8_1 + 1)) l0_0) = some r := by first | (rw [hy126]; with_reducible exact H) | (have H2_ := (Option.bind_some _ _).symm.trans H; rw [hy126]; with_reducible exact H2_) | (have H2_ := (Option.bind_some _ _).symm.trans H; with_reducible exact H2_) | with_reducible exact H | (rw [hy126]; exact H) | exact H
                have Ny126 := Aside0.mk hy126
                clear hy126
                have H' := Aside0.mk H
                clear H
                have hcz12_0 : wr.cell? ⟨gb122, 0, none⟩ = some (.slice A0_0 l0_0.length c0_0) := (blk_cell BK122.out 0).trans rfl
                have hfz12_0 := blk_frozen BK122.out 0
                have p124 : 0 ≤ ((ji7) : Int) := of_decide_eq_true (by first | (with_reducible assumption) | assumption)
                have q124 : (ji7) < (l0_0.length : Int) := of_decide_eq_true (by first | (with_reducible assumption) | assumption)
                obtain ⟨ad124, A124_3, c124_3, e124, hx124_0, hx124_1, hx124_2, hx124_3, hl124_3, hi124_3⟩ := at_T45 HR0_0.out (ji7) p124 q124
                cases e124
                replace hx124_0 := (HB.out.cell (World.block_lt_of_cell? w _ hx124_0)).trans hx124_0
                replace hx124_1 := (HB.out.cell (World.block_lt_of_cell? w _ hx124_1)).trans hx124_1
                replace hx124_2 := (HB.out.cell (World.block_lt_of_cell? w _ hx124_2)).trans hx124_2
                replace hx124_3 := (HB.out.cell (World.block_lt_of_cell? w _ hx124_3)).trans hx124_3
                have HR124_3 := Aside0.mk hi124_3
                have HC124_3 := Aside0.mk hl124_3
                clear hi124_3 hl124_3
                replace p124 := eq_true p124
                replace q124 := eq_true q124
                go_wp2_with (first | ((with_reducible refine gate_dst (N := 5) rfl ?_); refine box_event ?hg (N := 5) ?hd (cs := #[.int .i64 0, .int .i64 0, .int .i64 0, .slice none 0 0]) (t := 45) ?hr ?_; (case hd => rfl); (case hg => rfl); (case hr => first | (go_simp; done) | (go_simp; rfl)); intro gb125 hg w13 hbox hb; have n0_ := Aside0.mk (Kd.R_below (by (with_reducible repeat (first | apply Kd.R_alloc | apply Kd.R_drewN | apply Kd.R_drew)); exact HO_3.out) hb); have n1_ := Aside0.mk (blk_below (g := gb122) (o := .cells #[.slice (some ad124) l0_0.length c0_0] 24 (0, 0)) (by (with_reducible repeat (first | refine blk_drewN ?_ _ | refine blk_drew ?_ | refine blk_alloc ?_ _)); exact BK122.out) hb); have n2_ := Aside0.mk (below_step (by repeat (first | (with_reducible first | exact HB.out | apply below_alloc | apply pw_below_drewN | apply below_drew1 | refine below_set ?_ GE122.out) | exact HB.out)) hb); have n3_ := Aside0.mk (hbox); have n4_ := Aside0.mk ((by rw [hg]; exact (below_size (by repeat (first | (with_reducible first | exact HB.out | apply below_alloc | apply pw_below_drewN | apply below_drew1 | refine below_set ?_ GE122.out) | exact HB.out))) : w.heap.size ≤ gb125)); have n5_ := Aside0.mk ((by rw [hg]; exact (below_size (by repeat (first | (with_reducible first | exact HB.out | apply below_alloc | apply pw_below_drewN | apply below_drew1 | refine below_set ?_ GE122.out) | exact HB.out))) : w.heap.size ≤ gb125)); have n6_ := Aside0.mk ((by rw [hg]; exact Nat.ne_of_lt (blk_lt (g := gb122) (o := .cells #[.slice (some ad124) l0_0.length c0_0] 24 (0, 0)) (by (with_reducible repeat (first | refine blk_drewN ?_ _ | refine blk_drew ?_ | refine blk_alloc ?_ _)); exact BK122.out)) : gb122 ≠ gb125)); have n7_ := Aside0.mk ((by rw [hg]; exact Nat.ne_of_gt (blk_lt (g := gb122) (o := .cells #[.slice (some ad124) l0_0.length c0_0] 24 (0, 0)) (by (with_reducible repeat (first | refine blk_drewN ?_ _ | refine blk_drew ?_ | refine blk_alloc ?_ _)); exact BK122.out)) : gb125 ≠ gb122)); clear HO_3; clear BK122; clear HB; have HO_3 := n0_; have BK122 := n1_; have HB := n2_; have BK125 := n3_; have GW125 := n4_; have GE125 := n5_; have NB122_125 := n6_; have NB125_122 := n7_; clear n0_ n1_ n2_ n3_ n4_ n5_ n6_ n7_; clear hb hbox hg; have hnb14 := NB125_122.out; have hnc14 := NB122_125.out; have hcz15_0 : w13.cell? ⟨gb125, 0, none⟩ = some (.int .i64 0) := (blk_cell BK125.out 0).trans rfl; have hcz15_1 : w13.cell? ⟨gb125, 1, none⟩ = some (.int .i64 0) := (blk_cell BK125.out 1).trans rfl; have hcz15_2 : w13.cell? ⟨gb125, 2, none⟩ = some (.int .i64 0) := (blk_cell BK125.out 2).trans rfl; have hcz15_3 : w13.cell? ⟨gb125, 3, none⟩ = some (.slice none 0 0) := (blk_cell BK125.out 3).trans rfl; have hfz15_0 := blk_frozen BK125.out 0; have hfz15_1 := blk_frozen BK125.out 1; have hfz15_2 := blk_frozen BK125.out 2; have hfz15_3 := blk_frozen BK125.out 3) | ((with_reducible refine gate_builtin (b := .append) (xs := #[.tmp 20, .tmp 23]) rfl ?_); at_builtin; refine Kd.R_append (Kd.int .i64) (w0 := w) w.heap.size rfl (.tmp 20) (.tmp 23) 32 3 (.int .i64 0) 8 rfl Tryd.underlying32 info3 rfl (by decide) (by omega) u3 x3_1 ((rd_T45 l0_0 (ji7)).f1) [.int .i64 ((rd_T45 l0_0 (ji7)).f1)] (fun _ => True) (fun _ => False) rfl (by first | (go_simp; done) | (go_simp; rfl)) ?aP (fun _ hk => hk.elim) ?aF ?aO ?aB ?aS ?aL ?_; (case aP => exact rfl); (case aB => exact (by repeat (first | (with_reducible first | exact HB.out | apply below_alloc | apply pw_below_drewN | apply below_drew1 | refine below_set ?_ GE122.out | refine below_set ?_ GE125.out) | exact HB.out))); (case aF => exact (fun _ _ => trivial)); (case aO => exact (by (with_reducible repeat (first | apply Kd.R_alloc | apply Kd.R_drewN | apply Kd.R_drew)); exact Kd.R_mono (Kd.R_far (p := ⟨gb125, 3, none⟩) (Kd.R_far (p := ⟨gb125, 2, none⟩) (Kd.R_far (p := ⟨gb125, 1, none⟩) (Kd.R_far (p := ⟨gb125, 0, none⟩) (Kd.R_types HO_3.out BK125.out (by decide)) (fun _ hk => hk.2) (.int .i64 ((rd_T45 l0_0 (ji7)).f0))) (fun _ hk => hk.2) (.int .i64 ((rd_T45 l0_0 (ji7)).f1))) (fun _ hk => hk.2) (.int .i64 ((rd_T45 l0_0 (ji7)).f2))) (fun _ hk => hk.2) (.slice A124_3 ((rd_T45 l0_0 (ji7)).f3).length c124_3)) (fun _ hk => trivial))); (case aS => exact (below_size (by repeat (first | (with_reducible first | exact HB.out | apply below_alloc | apply pw_below_drewN | apply below_drew1 | refine below_set ?_ GE122.out | refine below_set ?_ GE125.out) | exact HB.out)))); (case aL => have := LMc11.out; omega); intro v127 w16 ho hb hg hat; rw [← Ny126.out] at ho; have n0_ := Aside0.mk (blk_grown (g := gb122) (o := .cells #[.slice (some ad124) l0_0.length c0_0] 24 (0, 0)) (by (with_reducible repeat (first | refine blk_drewN ?_ _ | refine blk_drew ?_ | refine blk_alloc ?_ _)); refine blk_far ?_ NB122_125.out _; (with_reducible repeat (first | refine blk_drewN ?_ _ | refine blk_drew ?_ | refine blk_alloc ?_ _)); refine blk_far ?_ NB122_125.out _; (with_reducible repeat (first | refine blk_drewN ?_ _ | refine blk_drew ?_ | refine blk_alloc ?_ _)); refine blk_far ?_ NB122_125.out _; (with_reducible repeat (first | refine blk_drewN ?_ _ | refine blk_drew ?_ | refine blk_alloc ?_ _)); refine blk_far ?_ NB122_125.out _; (with_reducible repeat (first | refine blk_drewN ?_ _ | refine blk_drew ?_ | refine blk_alloc ?_ _)); exact BK122.out) hg (Kd.R_ne HO_3.out BK122.out (by decide))); have n1_ := Aside0.mk (blk_grown (g := gb125) (o := .cells #[.int .i64 ((rd_T45 l0_0 (ji7)).f0), .int .i64 ((rd_T45 l0_0 (ji7)).f1), .int .i64 ((rd_T45 l0_0 (ji7)).f2), .slice A124_3 ((rd_T45 l0_0 (ji7)).f3).length c124_3] 45 (0, 0)) (by (with_reducible repeat (first | refine blk_drewN ?_ _ | refine blk_drew ?_ | refine blk_alloc ?_ _)); refine blk_put (cs := #[.int .i64 ((rd_T45 l0_0 (ji7)).f0), .int .i64 ((rd_T45 l0_0 (ji7)).f1), .int .i64 ((rd_T45 l0_0 (ji7)).f2), .slice none 0 0]) ?_ 3 _ rfl; (with_reducible repeat (first | refine blk_drewN ?_ _ | refine blk_drew ?_ | refine blk_alloc ?_ _)); refine blk_put (cs := #[.int .i64 ((rd_T45 l0_0 (ji7)).f0), .int .i64 ((rd_T45 l0_0 (ji7)).f1), .int .i64 0, .slice none 0 0]) ?_ 2 _ rfl; (with_reducible repeat (first | refine blk_drewN ?_ _ | refine blk_drew ?_ | refine blk_alloc ?_ _)); refine blk_put (cs := #[.int .i64 ((rd_T45 l0_0 (ji7)).f0), .int .i64 0, .int .i64 0, .slice none 0 0]) ?_ 1 _ rfl; (with_reducible repeat (first | refine blk_drewN ?_ _ | refine blk_drew ?_ | refine blk_alloc ?_ _)); refine blk_put (cs := #[.int .i64 0, .int .i64 0, .int .i64 0, .slice none 0 0]) ?_ 0 _ rfl; (with_reducible repeat (first | refine blk_drewN ?_ _ | refine blk_drew ?_ | refine blk_alloc ?_ _)); exact BK125.out) hg (Kd.R_ne HO_3.out BK125.out (by decide))); have n2_ := Aside0.mk (hb); have n3_ := Aside0.mk (ho); clear BK122; clear BK125; clear HB; clear HO_3; have BK122 := n0_; have BK125 := n1_; have HB := n2_; have HO128 := n3_; clear n0_ n1_ n2_ n3_; clear ho hb hg hat))
                go_roundg k1
                case measure => have := HK1.out; omega
                case rel => exact ⟨(y126), (wrap64 (x8_1 + 1)), (by first | rfl | (simp; done) | (simp [*]; done)), H', ⟨by have := HK1.out; omega⟩, ⟨by (with_reducible repeat (first | apply Kd.R_alloc | apply Kd.R_drewN | apply Kd.R_drew)); exact HO128.out⟩, ⟨by (with_reducible repeat (first | refine blk_drewN ?_ _ | refine blk_drew ?_ | refine blk_alloc ?_ _)); exact BK122.out⟩, ⟨by repeat (first | (with_reducible first | exact HB.out | apply below_alloc | apply pw_below_drewN | apply below_drew1 | refine below_set ?_ GE122.out | refine below_set ?_ GE125.out) | exact HB.out)⟩⟩
              · rw [if_neg c11] at H
                exact absurd H (by simp)
            · rw [if_neg c10] at H
              have c10b0 : decide (0 < ((rd_T45 l0_0 (ji7)).f0)) = false := decide_eq_false c10
              clear c10
              have H' := Aside0.mk H
              clear H
              have hcz17_0 : wr.cell? ⟨gb122, 0, none⟩ = some (.slice A0_0 l0_0.length c0_0) := (blk_cell BK122.out 0).trans rfl
              have hfz17_0 := blk_frozen BK122.out 0
              have p124 : 0 ≤ ((ji7) : Int) := of_decide_eq_true (by first | (with_reducible assumption) | assumption)
              have q124 : (ji7) < (l0_0.length : Int) := of_decide_eq_true (by first | (with_reducible assumption) | assumption)
              obtain ⟨ad124, A124_3, c124_3, e124, hx124_0, hx124_1, hx124_2, hx124_3, hl124_3, hi124_3⟩ := at_T45 HR0_0.out (ji7) p124 q124
              cases e124
              replace hx124_0 := (HB.out.cell (World.block_lt_of_cell? w _ hx124_0)).trans hx124_0
              replace hx124_1 := (HB.out.cell (World.block_lt_of_cell? w _ hx124_1)).trans hx124_1
              replace hx124_2 := (HB.out.cell (World.block_lt_of_cell? w _ hx124_2)).trans hx124_2
              replace hx124_3 := (HB.out.cell (World.block_lt_of_cell? w _ hx124_3)).trans hx124_3
              have HR124_3 := Aside0.mk hi124_3
              have HC124_3 := Aside0.mk hl124_3
              clear hi124_3 hl124_3
              replace p124 := eq_true p124
              replace q124 := eq_true q124
              go_wp2_with (first | ((with_reducible refine gate_dst (N := 5) rfl ?_); refine box_event ?hg (N := 5) ?hd (cs := #[.int .i64 0, .int .i64 0, .int .i64 0, .slice none 0 0]) (t := 45) ?hr ?_; (case hd => rfl); (case hg => rfl); (case hr => first | (go_simp; done) | (go_simp; rfl)); intro gb125 hg w18 hbox hb; have n0_ := Aside0.mk (Kd.R_below (by (with_reducible repeat (first | apply Kd.R_alloc | apply Kd.R_drewN | apply Kd.R_drew)); exact HO_3.out) hb); have n1_ := Aside0.mk (blk_below (g := gb122) (o := .cells #[.slice (some ad124) l0_0.length c0_0] 24 (0, 0)) (by (with_reducible repeat (first | refine blk_drewN ?_ _ | refine blk_drew ?_ | refine blk_alloc ?_ _)); exact BK122.out) hb); have n2_ := Aside0.mk (below_step (by repeat (first | (with_reducible first | exact HB.out | apply below_alloc | apply pw_below_drewN | apply below_drew1 | refine below_set ?_ GE122.out) | exact HB.out)) hb); have n3_ := Aside0.mk (hbox); have n4_ := Aside0.mk ((by rw [hg]; exact (below_size (by repeat (first | (with_reducible first | exact HB.out | apply below_alloc | apply pw_below_drewN | apply below_drew1 | refine below_set ?_ GE122.out) | exact HB.out))) : w.heap.size ≤ gb125)); have n5_ := Aside0.mk ((by rw [hg]; exact (below_size (by repeat (first | (with_reducible first | exact HB.out | apply below_alloc | apply pw_below_drewN | apply below_drew1 | refine below_set ?_ GE122.out) | exact HB.out))) : w.heap.size ≤ gb125)); have n6_ := Aside0.mk ((by rw [hg]; exact Nat.ne_of_lt (blk_lt (g := gb122) (o := .cells #[.slice (some ad124) l0_0.length c0_0] 24 (0, 0)) (by (with_reducible repeat (first | refine blk_drewN ?_ _ | refine blk_drew ?_ | refine blk_alloc ?_ _)); exact BK122.out)) : gb122 ≠ gb125)); have n7_ := Aside0.mk ((by rw [hg]; exact Nat.ne_of_gt (blk_lt (g := gb122) (o := .cells #[.slice (some ad124) l0_0.length c0_0] 24 (0, 0)) (by (with_reducible repeat (first | refine blk_drewN ?_ _ | refine blk_drew ?_ | refine blk_alloc ?_ _)); exact BK122.out)) : gb125 ≠ gb122)); clear HO_3; clear BK122; clear HB; have HO_3 := n0_; have BK122 := n1_; have HB := n2_; have BK125 := n3_; have GW125 := n4_; have GE125 := n5_; have NB122_125 := n6_; have NB125_122 := n7_; clear n0_ n1_ n2_ n3_ n4_ n5_ n6_ n7_; clear hb hbox hg; have hnb19 := NB125_122.out; have hnc19 := NB122_125.out; have hcz20_0 : w18.cell? ⟨gb125, 0, none⟩ = some (.int .i64 0) := (blk_cell BK125.out 0).trans rfl; have hcz20_1 : w18.cell? ⟨gb125, 1, none⟩ = some (.int .i64 0) := (blk_cell BK125.out 1).trans rfl; have hcz20_2 : w18.cell? ⟨gb125, 2, none⟩ = some (.int .i64 0) := (blk_cell BK125.out 2).trans rfl; have hcz20_3 : w18.cell? ⟨gb125, 3, none⟩ = some (.slice none 0 0) := (blk_cell BK125.out 3).trans rfl; have hfz20_0 := blk_frozen BK125.out 0; have hfz20_1 := blk_frozen BK125.out 1; have hfz20_2 := blk_frozen BK125.out 2; have hfz20_3 := blk_frozen BK125.out 3))
              go_roundg k1
              case measure => have := HK1.out; omega
              case rel => exact ⟨(x3_1), (wrap64 (x8_1 + 1)), (by first | rfl | (simp; done) | (simp [*]; done)), H', ⟨by have := HK1.out; omega⟩, ⟨by (with_reducible repeat (first | apply Kd.R_alloc | apply Kd.R_drewN | apply Kd.R_drew)); exact Kd.R_mono (Kd.R_far (p := ⟨gb125, 3, none⟩) (Kd.R_far (p := ⟨gb125, 2, none⟩) (Kd.R_far (p := ⟨gb125, 1, none⟩) (Kd.R_far (p := ⟨gb125, 0, none⟩) (Kd.R_types HO_3.out BK125.out (by decide)) (fun _ hk => hk.2) (.int .i64 ((rd_T45 l0_0 (ji7)).f0))) (fun _ hk => hk.2) (.int .i64 ((rd_T45 l0_0 (ji7)).f1))) (fun _ hk => hk.2) (.int .i64 ((rd_T45 l0_0 (ji7)).f2))) (fun _ hk => hk.2) (.slice A124_3 ((rd_T45 l0_0 (ji7)).f3).length c124_3)) (fun _ hk => trivial)⟩, ⟨by (with_reducible repeat (first | refine blk_drewN ?_ _ | refine blk_drew ?_ | refine blk_alloc ?_ _)); refine blk_far ?_ NB122_125.out _; (with_reducible repeat (first | refine blk_drewN ?_ _ | refine blk_drew ?_ | refine blk_alloc ?_ _)); refine blk_far ?_ NB122_125.out _; (with_reducible repeat (first | refine blk_drewN ?_ _ | refine blk_drew ?_ | refine blk_alloc ?_ _)); refine blk_far ?_ NB122_125.out _; (with_reducible repeat (first | refine blk_drewN ?_ _ | refine blk_drew ?_ | refine blk_alloc ?_ _)); refine blk_far ?_ NB122_125.out _; (with_reducible repeat (first | refine blk_drewN ?_ _ | refine blk_drew ?_ | refine blk_alloc ?_ _)); exact BK122.out⟩, ⟨by repeat (first | (with_reducible first | exact HB.out | apply below_alloc | apply pw_below_drewN | apply below_drew1 | refine below_set ?_ GE122.out | refine below_set ?_ GE125.out) | exact HB.out)⟩⟩
          · rw [if_neg c9] at H
            exact absurd H (by simp)
        · rw [if_neg c8] at H
          exact absurd H (by simp)
      · rw [if_neg c6] at H
        have c6b0 : decide (x8_1 < t123) = false := decide_eq_false c6
        clear c6
        obtain rfl := Option.some.inj H
        go_wp2
        go_ret
        exact ⟨_, by first | rfl | (simp [errW_none, errW_some] <;> rfl) | (simp [*, errW_none, errW_some] <;> rfl), by (with_reducible repeat (first | apply Kd.R_alloc | apply Kd.R_drewN | apply Kd.R_drew)); exact HO_3.out, by repeat (first | (with_reducible first | exact HB.out | apply below_alloc | apply pw_below_drewN | apply below_drew1 | refine below_set ?_ GE122.out) | exact HB.out)⟩
def tree_Find.l0 : Nat → Int → Int → Int → List (S45) → Option (Int)
  | 0, _, _, _, _ => none
  | k + 1, x1, x8, x9, x130000 => if x9 < x8 then (if 0 ≤ (wrap64 (2 * x9)) then (if (wrap64 (2 * x9)) < (x130000.length : Int) then (if ((rd_T45 x130000 (wrap64 (2 * x9))).f0) > 0 then (if ((rd_T45 x130000 (wrap64 (2 * x9))).f1) = x1 then (some x9) else (tree_Find.l0 k x1 x8 (wrap64 (x9 + 1)) x130000)) else (tree_Find.l0 k x1 x8 (wrap64 (x9 + 1)) x130000)) else (none)) else (none)) else (some (-1))
def tree_Find.f (k : Nat) (l0_0 : List (S45)) (a1 : Int) : Option (Int) := (tree_Size.f l0_0).bind fun t130 => (tree_Find.l0 k a1 t130 0 l0_0)
theorem tree_Find.mono_l : ∀ k, (∀ y0 y1 y2 y3, LeO (tree_Find.l0 k y0 y1 y2 y3) (tree_Find.l0 (k + 1) y0 y1 y2 y3))
  | 0 => fun _ _ _ _ r h => by simp [tree_Find.l0] at h
  | k + 1 => by
    have ih0 := tree_Find.mono_l k
    · intro y0 y1 y2 y3
      unfold tree_Find.l0
      repeat' first
      | (with_reducible exact ih0 _ _ _ _)
      | (with_reducible exact LeO.refl _)
      | (with_reducible exact LeO.none _)
      | (with_reducible refine LeO.ite ?_ ?_)
      | (with_reducible refine LeO.bind ?_ (fun _ => ?_))
      | exact ih0 _ _ _ _
      | exact LeO.none _
      | refine LeO.ite ?_ ?_
      | refine LeO.bind ?_ (fun _ => ?_)
theorem tree_Find.mono : ∀ a0 a1 k, LeO (tree_Find.f k a0 a1) (tree_Find.f (k + 1) a0 a1) := by
  intro a0 a1 k
  have ih0 := tree_Find.mono_l k
  unfold tree_Find.f
  repeat' first
      | (with_reducible exact ih0 _ _ _ _)
      | (with_reducible exact LeO.refl _)
      | (with_reducible exact LeO.none _)
      | (with_reducible refine LeO.ite ?_ ?_)
      | (with_reducible refine LeO.bind ?_ (fun _ => ?_))
      | exact ih0 _ _ _ _
      | exact LeO.none _
      | refine LeO.ite ?_ ?_
      | refine LeO.bind ?_ (fun _ => ?_)
set_option maxHeartbeats 8000000 in
set_option maxRecDepth 100000 in
theorem tree_Find.calls (k : Nat) (A0_0 : Option Addr) (c0_0 : Nat) (l0_0 : List (S45)) (a1 : Int) (r : Int) (w : World) (hr0_0 : Kd.C k45 w A0_0 l0_0.length l0_0) (hc0_0 : l0_0.length ≤ c0_0) (hT : TabG w) (h : tree_Find.f k l0_0 a1 = some r) :
    Calls Tryd.prog 15 #[.agg #[.slice A0_0 l0_0.length c0_0], .int .i64 a1] w fun e w' => e = .returned (.int .i64 r) ∧ Below w.heap.size w w' := by
  have hu24 := Tryd.underlying24
  have hu45 := Tryd.underlying45
  have HR0_0 := Aside0.mk hr0_0
  have HC0_0 := Aside0.mk hc0_0
  clear hr0_0 hc0_0
  have HB := Aside0.mk (Below.refl w.heap.size w)
  have HT := Aside0.mk hT
  clear hT
  have H : ((tree_Size.f l0_0).bind fun t130 => (tree_Find.l0 k a1 t130 0 l0_0)) = some r := h
  clear h
  replace H := Option.bind_eq_some_iff.mp H
  obtain ⟨t130, A30, H⟩ := H
  replace H : (tree_Find.l0 k a1 t130 0 l0_0) = some r := H
  have A3 := Aside0.mk A30
  clear A30
  have H' := Aside0.mk H
  clear H
  go_enter Tryd.func15, Tryd.ntmps15
  go_wp2_with (first | ((with_reducible refine gate_dst (N := 2) rfl ?_); refine box_event ?hg (N := 2) ?hd (cs := #[.slice A0_0 l0_0.length c0_0]) (t := 24) ?hr ?_; (case hd => rfl); (case hg => rfl); (case hr => first | (go_simp; done) | (go_simp; rfl)); intro gb129 hg w4 hbox hb; have n0_ := Aside0.mk (below_step (by repeat (first | (with_reducible first | exact HB.out | apply below_alloc | apply pw_below_drewN | apply below_drew1) | exact HB.out)) hb); have n1_ := Aside0.mk (hbox); have n2_ := Aside0.mk ((by rw [hg]; exact (below_size (by repeat (first | (with_reducible first | exact HB.out | apply below_alloc | apply pw_below_drewN | apply below_drew1) | exact HB.out))) : w.heap.size ≤ gb129)); have n3_ := Aside0.mk ((by rw [hg]; exact (below_size (by repeat (first | (with_reducible first | exact HB.out | apply below_alloc | apply pw_below_drewN | apply below_drew1) | exact HB.out))) : w.heap.size ≤ gb129)); clear HB; have HB := n0_; have BK129 := n1_; have GW129 := n2_; have GE129 := n3_; clear n0_ n1_ n2_ n3_; clear hb hbox hg; have hcz5_0 : w4.cell? ⟨gb129, 0, none⟩ = some (.slice A0_0 l0_0.length c0_0) := (blk_cell BK129.out 0).trans rfl; have hfz5_0 := blk_frozen BK129.out 0) | ((with_reducible refine gate_callee (f := 20) rfl ?_); refine goesL_ (some 8) rfl rfl Tryd.func20 (by kernel_rfl) rfl #[.agg #[.slice A0_0 l0_0.length c0_0]] rfl (by (try simp only [List.map_toArray, List.map_cons, List.map_nil]); first | done | rfl | (simp only [List.length_drop, List.length_take]; rfl)) ?_; (with_reducible refine (tree_Size.calls _ _ l0_0 t130 _ ?side1 ?side2 ?side3 A3.out).mono ?_); (case side1 => repeat (first | exact (Kd.C_below HR0_0.out HB.out) | (with_reducible refine Kd.C_alloc ?_ _) | (with_reducible refine Kd.C_drewN ?_ _) | (with_reducible refine Kd.C_drew ?_))); (case side2 => exact HC0_0.out); (case side3 => repeat (first | exact HT.out | exact TabG.below HT.out HB.out | (with_reducible refine TabG.alloc ?_ _) | (with_reducible refine TabG.drewN ?_ _) | (with_reducible refine TabG.drew ?_) | exact TabG.below HT.out (by repeat (first | (with_reducible first | exact HB.out | apply below_alloc | apply pw_below_drewN | apply below_drew1 | refine below_set ?_ GE129.out) | exact HB.out)))); rintro e w6 ⟨rfl, hb⟩; refine ⟨_, rfl, ?_⟩; have n0_ := Aside0.mk (blk_below (g := gb129) (o := .cells #[.slice A0_0 l0_0.length c0_0] 24 (0, 0)) (by (with_reducible repeat (first | refine blk_drewN ?_ _ | refine blk_drew ?_ | refine blk_alloc ?_ _)); exact BK129.out) hb); have n1_ := Aside0.mk (below_step (by repeat (first | (with_reducible first | exact HB.out | apply below_alloc | apply pw_below_drewN | apply below_drew1 | refine below_set ?_ GE129.out) | exact HB.out)) hb); clear BK129; clear HB; have BK129 := n0_; have HB := n1_; clear n0_ n1_; (try clear hb); (try clear hb2); (try clear hk); (try clear hi)))
  go_loopg [9] k (fun kq v9 w' => ∃ (x9_1 : Int), v9 = .int .i64 x9_1 ∧ Aside0 (tree_Find.l0 kq a1 t130 x9_1 l0_0 = some r) ∧ Aside0 (kq ≤ k) ∧ Aside0 (w'.heap[gb129]? = some (.cells #[(.slice A0_0 l0_0.length c0_0)] 24 (0, 0))) ∧ Aside0 (Below w.heap.size w w'))
  case atStart => exact ⟨(0), (by first | rfl | (simp; done) | (simp [*]; done)), H', ⟨Nat.le_refl _⟩, ⟨by (with_reducible repeat (first | refine blk_drewN ?_ _ | refine blk_drew ?_ | refine blk_alloc ?_ _)); exact BK129.out⟩, ⟨by repeat (first | (with_reducible first | exact HB.out | apply below_alloc | apply pw_below_drewN | apply below_drew1 | refine below_set ?_ GE129.out) | exact HB.out)⟩⟩
  case round =>
    clear H'
    try clear c1
    try clear c2
    try clear p2
    try clear hcz5_0
    try clear hfz5_0
    obtain ⟨x9_1, rfl, HA, HK1, BK129, HB⟩ := hrel
    cases gk with
    | zero => exact absurd HA.out (by simp [tree_Find.l0])
    | succ k1 =>
      have H := HA.out
      clear HA
      simp only [tree_Find.l0] at H
      by_cases c7 : x9_1 < t130
      · rw [if_pos c7] at H
        have c7b0 : decide (x9_1 < t130) = true := decide_eq_true c7
        clear c7
        obtain ⟨ji8, hji8⟩ : ∃ j_ : Int, (wrap64 (2 * x9_1)) = j_ := ⟨_, rfl⟩
        replace H : (if 0 ≤ (ji8) then (if (ji8) < (l0_0.length : Int) then (if ((rd_T45 l0_0 (ji8)).f0) > 0 then (if ((rd_T45 l0_0 (ji8)).f1) = a1 then (some x9_1) else (tree_Find.l0 k1 a1 t130 (wrap64 (x9_1 + 1)) l0_0)) else (tree_Find.l0 k1 a1 t130 (wrap64 (x9_1 + 1)) l0_0)) else (none)) else (none)) = some r := by first | (rw [hji8] at H; exact H) | (simp only [hji8] at H ⊢; exact H)
        have hji8w : (IntKind.i64.wrap (2 * x9_1)) = ji8 := (i64_w _).trans hji8
        by_cases c9 : 0 ≤ (ji8)
        · rw [if_pos c9] at H
          have c9b0 : decide (0 ≤ (ji8)) = true := decide_eq_true c9
          clear c9
          by_cases c10 : (ji8) < (l0_0.length : Int)
          · rw [if_pos c10] at H
            have c10b0 : decide ((ji8) < (l0_0.length : Int)) = true := decide_eq_true c10
            clear c10
            by_cases c11 : ((rd_T45 l0_0 (ji8)).f0) > 0
            · rw [if_pos c11] at H
              have c11b0 : decide (0 < ((rd_T45 l0_0 (ji8)).f0)) = true := decide_eq_true c11
              clear c11
              by_cases c12 : ((rd_T45 l0_0 (ji8)).f1) = a1
              · rw [if_pos c12] at H
                have c12b0 : (((rd_T45 l0_0 (ji8)).f1) == a1) = true := beq_iff_eq.mpr c12
                have c12b1 : (((rd_T45 l0_0 (ji8)).f1) != a1) = false := bne_eq_false_iff_eq.mpr c12
                clear c12
                obtain rfl := Option.some.inj H
                have hcz13_0 : wr.cell? ⟨gb129, 0, none⟩ = some (.slice A0_0 l0_0.length c0_0) := (blk_cell BK129.out 0).trans rfl
                have hfz13_0 := blk_frozen BK129.out 0
                have p131 : 0 ≤ ((ji8) : Int) := of_decide_eq_true (by first | (with_reducible assumption) | assumption)
                have q131 : (ji8) < (l0_0.length : Int) := of_decide_eq_true (by first | (with_reducible assumption) | assumption)
                obtain ⟨ad131, A131_3, c131_3, e131, hx131_0, hx131_1, hx131_2, hx131_3, hl131_3, hi131_3⟩ := at_T45 HR0_0.out (ji8) p131 q131
                cases e131
                replace hx131_0 := (HB.out.cell (World.block_lt_of_cell? w _ hx131_0)).trans hx131_0
                replace hx131_1 := (HB.out.cell (World.block_lt_of_cell? w _ hx131_1)).trans hx131_1
                replace hx131_2 := (HB.out.cell (World.block_lt_of_cell? w _ hx131_2)).trans hx131_2
                replace hx131_3 := (HB.out.cell (World.block_lt_of_cell? w _ hx131_3)).trans hx131_3
                have HR131_3 := Aside0.mk hi131_3
                have HC131_3 := Aside0.mk hl131_3
                clear hi131_3 hl131_3
                replace p131 := eq_true p131
                replace q131 := eq_true q131
                go_wp2_with (first | ((with_reducible refine gate_dst (N := 6) rfl ?_); refine box_event ?hg (N := 6) ?hd (cs := #[.int .i64 0, .int .i64 0, .int .i64 0, .slice none 0 0]) (t := 45) ?hr ?_; (case hd => rfl); (case hg => rfl); (case hr => first | (go_simp; done) | (go_simp; rfl)); intro gb132 hg w14 hbox hb; have n0_ := Aside0.mk (blk_below (g := gb129) (o := .cells #[.slice (some ad131) l0_0.length c0_0] 24 (0, 0)) (by (with_reducible repeat (first | refine blk_drewN ?_ _ | refine blk_drew ?_ | refine blk_alloc ?_ _)); exact BK129.out) hb); have n1_ := Aside0.mk (below_step (by repeat (first | (with_reducible first | exact HB.out | apply below_alloc | apply pw_below_drewN | apply below_drew1 | refine below_set ?_ GE129.out) | exact HB.out)) hb); have n2_ := Aside0.mk (hbox); have n3_ := Aside0.mk ((by rw [hg]; exact (below_size (by repeat (first | (with_reducible first | exact HB.out | apply below_alloc | apply pw_below_drewN | apply below_drew1 | refine below_set ?_ GE129.out) | exact HB.out))) : w.heap.size ≤ gb132)); have n4_ := Aside0.mk ((by rw [hg]; exact (below_size (by repeat (first | (with_reducible first | exact HB.out | apply below_alloc | apply pw_below_drewN | apply below_drew1 | refine below_set ?_ GE129.out) | exact HB.out))) : w.heap.size ≤ gb132)); have n5_ := Aside0.mk ((by rw [hg]; exact Nat.ne_of_lt (blk_lt (g := gb129) (o := .cells #[.slice (some ad131) l0_0.length c0_0] 24 (0, 0)) (by (with_reducible repeat (first | refine blk_drewN ?_ _ | refine blk_drew ?_ | refine blk_alloc ?_ _)); exact BK129.out)) : gb129 ≠ gb132)); have n6_ := Aside0.mk ((by rw [hg]; exact Nat.ne_of_gt (blk_lt (g := gb129) (o := .cells #[.slice (some ad131) l0_0.length c0_0] 24 (0, 0)) (by (with_reducible repeat (first | refine blk_drewN ?_ _ | refine blk_drew ?_ | refine blk_alloc ?_ _)); exact BK129.out)) : gb132 ≠ gb129)); clear BK129; clear HB; have BK129 := n0_; have HB := n1_; have BK132 := n2_; have GW132 := n3_; have GE132 := n4_; have NB129_132 := n5_; have NB132_129 := n6_; clear n0_ n1_ n2_ n3_ n4_ n5_ n6_; clear hb hbox hg; have hnb15 := NB132_129.out; have hnc15 := NB129_132.out; have hcz16_0 : w14.cell? ⟨gb132, 0, none⟩ = some (.int .i64 0) := (blk_cell BK132.out 0).trans rfl; have hcz16_1 : w14.cell? ⟨gb132, 1, none⟩ = some (.int .i64 0) := (blk_cell BK132.out 1).trans rfl; have hcz16_2 : w14.cell? ⟨gb132, 2, none⟩ = some (.int .i64 0) := (blk_cell BK132.out 2).trans rfl; have hcz16_3 : w14.cell? ⟨gb132, 3, none⟩ = some (.slice none 0 0) := (blk_cell BK132.out 3).trans rfl; have hfz16_0 := blk_frozen BK132.out 0; have hfz16_1 := blk_frozen BK132.out 1; have hfz16_2 := blk_frozen BK132.out 2; have hfz16_3 := blk_frozen BK132.out 3))
                go_ret
                exact ⟨by first | rfl | (simp [errW_none, errW_some] <;> rfl) | (simp only [← hji8]; first | rfl | (simp [errW_none, errW_some] <;> rfl)) | (simp [*, errW_none, errW_some] <;> rfl), by repeat (first | (with_reducible first | exact HB.out | apply below_alloc | apply pw_below_drewN | apply below_drew1 | refine below_set ?_ GE129.out | refine below_set ?_ GE132.out) | exact HB.out)⟩
              · rw [if_neg c12] at H
                have c12b0 : (((rd_T45 l0_0 (ji8)).f1) == a1) = false := beq_eq_false_iff_ne.mpr c12
                have c12b1 : (((rd_T45 l0_0 (ji8)).f1) != a1) = true := bne_iff_ne.mpr c12
                have H' := Aside0.mk H
                clear H
                have hcz17_0 : wr.cell? ⟨gb129, 0, none⟩ = some (.slice A0_0 l0_0.length c0_0) := (blk_cell BK129.out 0).trans rfl
                have hfz17_0 := blk_frozen BK129.out 0
                have p131 : 0 ≤ ((ji8) : Int) := of_decide_eq_true (by first | (with_reducible assumption) | assumption)
                have q131 : (ji8) < (l0_0.length : Int) := of_decide_eq_true (by first | (with_reducible assumption) | assumption)
                obtain ⟨ad131, A131_3, c131_3, e131, hx131_0, hx131_1, hx131_2, hx131_3, hl131_3, hi131_3⟩ := at_T45 HR0_0.out (ji8) p131 q131
                cases e131
                replace hx131_0 := (HB.out.cell (World.block_lt_of_cell? w _ hx131_0)).trans hx131_0
                replace hx131_1 := (HB.out.cell (World.block_lt_of_cell? w _ hx131_1)).trans hx131_1
                replace hx131_2 := (HB.out.cell (World.block_lt_of_cell? w _ hx131_2)).trans hx131_2
                replace hx131_3 := (HB.out.cell (World.block_lt_of_cell? w _ hx131_3)).trans hx131_3
                have HR131_3 := Aside0.mk hi131_3
                have HC131_3 := Aside0.mk hl131_3
                clear hi131_3 hl131_3
                replace p131 := eq_true p131
                replace q131 := eq_true q131
                go_wp2_with (first | ((with_reducible refine gate_dst (N := 6) rfl ?_); refine box_event ?hg (N := 6) ?hd (cs := #[.int .i64 0, .int .i64 0, .int .i64 0, .slice none 0 0]) (t := 45) ?hr ?_; (case hd => rfl); (case hg => rfl); (case hr => first | (go_simp; done) | (go_simp; rfl)); intro gb132 hg w18 hbox hb; have n0_ := Aside0.mk (blk_below (g := gb129) (o := .cells #[.slice (some ad131) l0_0.length c0_0] 24 (0, 0)) (by (with_reducible repeat (first | refine blk_drewN ?_ _ | refine blk_drew ?_ | refine blk_alloc ?_ _)); exact BK129.out) hb); have n1_ := Aside0.mk (below_step (by repeat (first | (with_reducible first | exact HB.out | apply below_alloc | apply pw_below_drewN | apply below_drew1 | refine below_set ?_ GE129.out) | exact HB.out)) hb); have n2_ := Aside0.mk (hbox); have n3_ := Aside0.mk ((by rw [hg]; exact (below_size (by repeat (first | (with_reducible first | exact HB.out | apply below_alloc | apply pw_below_drewN | apply below_drew1 | refine below_set ?_ GE129.out) | exact HB.out))) : w.heap.size ≤ gb132)); have n4_ := Aside0.mk ((by rw [hg]; exact (below_size (by repeat (first | (with_reducible first | exact HB.out | apply below_alloc | apply pw_below_drewN | apply below_drew1 | refine below_set ?_ GE129.out) | exact HB.out))) : w.heap.size ≤ gb132)); have n5_ := Aside0.mk ((by rw [hg]; exact Nat.ne_of_lt (blk_lt (g := gb129) (o := .cells #[.slice (some ad131) l0_0.length c0_0] 24 (0, 0)) (by (with_reducible repeat (first | refine blk_drewN ?_ _ | refine blk_drew ?_ | refine blk_alloc ?_ _)); exact BK129.out)) : gb129 ≠ gb132)); have n6_ := Aside0.mk ((by rw [hg]; exact Nat.ne_of_gt (blk_lt (g := gb129) (o := .cells #[.slice (some ad131) l0_0.length c0_0] 24 (0, 0)) (by (with_reducible repeat (first | refine blk_drewN ?_ _ | refine blk_drew ?_ | refine blk_alloc ?_ _)); exact BK129.out)) : gb132 ≠ gb129)); clear BK129; clear HB; have BK129 := n0_; have HB := n1_; have BK132 := n2_; have GW132 := n3_; have GE132 := n4_; have NB129_132 := n5_; have NB132_129 := n6_; clear n0_ n1_ n2_ n3_ n4_ n5_ n6_; clear hb hbox hg; have hnb19 := NB132_129.out; have hnc19 := NB129_132.out; have hcz20_0 : w18.cell? ⟨gb132, 0, none⟩ = some (.int .i64 0) := (blk_cell BK132.out 0).trans rfl; have hcz20_1 : w18.cell? ⟨gb132, 1, none⟩ = some (.int .i64 0) := (blk_cell BK132.out 1).trans rfl; have hcz20_2 : w18.cell? ⟨gb132, 2, none⟩ = some (.int .i64 0) := (blk_cell BK132.out 2).trans rfl; have hcz20_3 : w18.cell? ⟨gb132, 3, none⟩ = some (.slice none 0 0) := (blk_cell BK132.out 3).trans rfl; have hfz20_0 := blk_frozen BK132.out 0; have hfz20_1 := blk_frozen BK132.out 1; have hfz20_2 := blk_frozen BK132.out 2; have hfz20_3 := blk_frozen BK132.out 3))
                go_roundg k1
                case measure => have := HK1.out; omega
                case rel => exact ⟨(wrap64 (x9_1 + 1)), (by first | rfl | (simp; done) | (simp [*]; done)), H', ⟨by have := HK1.out; omega⟩, ⟨by (with_reducible repeat (first | refine blk_drewN ?_ _ | refine blk_drew ?_ | refine blk_alloc ?_ _)); refine blk_far ?_ NB129_132.out _; (with_reducible repeat (first | refine blk_drewN ?_ _ | refine blk_drew ?_ | refine blk_alloc ?_ _)); refine blk_far ?_ NB129_132.out _; (with_reducible repeat (first | refine blk_drewN ?_ _ | refine blk_drew ?_ | refine blk_alloc ?_ _)); refine blk_far ?_ NB129_132.out _; (with_reducible repeat (first | refine blk_drewN ?_ _ | refine blk_drew ?_ | refine blk_alloc ?_ _)); refine blk_far ?_ NB129_132.out _; (with_reducible repeat (first | refine blk_drewN ?_ _ | refine blk_drew ?_ | refine blk_alloc ?_ _)); exact BK129.out⟩, ⟨by repeat (first | (with_reducible first | exact HB.out | apply below_alloc | apply pw_below_drewN | apply below_drew1 | refine below_set ?_ GE129.out | refine below_set ?_ GE132.out) | exact HB.out)⟩⟩
            · rw [if_neg c11] at H
              have c11b0 : decide (0 < ((rd_T45 l0_0 (ji8)).f0)) = false := decide_eq_false c11
              clear c11
              have H' := Aside0.mk H
              clear H
              have hcz21_0 : wr.cell? ⟨gb129, 0, none⟩ = some (.slice A0_0 l0_0.length c0_0) := (blk_cell BK129.out 0).trans rfl
              have hfz21_0 := blk_frozen BK129.out 0
              have p131 : 0 ≤ ((ji8) : Int) := of_decide_eq_true (by first | (with_reducible assumption) | assumption)
              have q131 : (ji8) < (l0_0.length : Int) := of_decide_eq_true (by first | (with_reducible assumption) | assumption)
              obtain ⟨ad131, A131_3, c131_3, e131, hx131_0, hx131_1, hx131_2, hx131_3, hl131_3, hi131_3⟩ := at_T45 HR0_0.out (ji8) p131 q131
              cases e131
              replace hx131_0 := (HB.out.cell (World.block_lt_of_cell? w _ hx131_0)).trans hx131_0
              replace hx131_1 := (HB.out.cell (World.block_lt_of_cell? w _ hx131_1)).trans hx131_1
              replace hx131_2 := (HB.out.cell (World.block_lt_of_cell? w _ hx131_2)).trans hx131_2
              replace hx131_3 := (HB.out.cell (World.block_lt_of_cell? w _ hx131_3)).trans hx131_3
              have HR131_3 := Aside0.mk hi131_3
              have HC131_3 := Aside0.mk hl131_3
              clear hi131_3 hl131_3
              replace p131 := eq_true p131
              replace q131 := eq_true q131
              go_wp2_with (first | ((with_reducible refine gate_dst (N := 6) rfl ?_); refine box_event ?hg (N := 6) ?hd (cs := #[.int .i64 0, .int .i64 0, .int .i64 0, .slice none 0 0]) (t := 45) ?hr ?_; (case hd => rfl); (case hg => rfl); (case hr => first | (go_simp; done) | (go_simp; rfl)); intro gb132 hg w22 hbox hb; have n0_ := Aside0.mk (blk_below (g := gb129) (o := .cells #[.slice (some ad131) l0_0.length c0_0] 24 (0, 0)) (by (with_reducible repeat (first | refine blk_drewN ?_ _ | refine blk_drew ?_ | refine blk_alloc ?_ _)); exact BK129.out) hb); have n1_ := Aside0.mk (below_step (by repeat (first | (with_reducible first | exact HB.out | apply below_alloc | apply pw_below_drewN | apply below_drew1 | refine below_set ?_ GE129.out) | exact HB.out)) hb); have n2_ := Aside0.mk (hbox); have n3_ := Aside0.mk ((by rw [hg]; exact (below_size (by repeat (first | (with_reducible first | exact HB.out | apply below_alloc | apply pw_below_drewN | apply below_drew1 | refine below_set ?_ GE129.out) | exact HB.out))) : w.heap.size ≤ gb132)); have n4_ := Aside0.mk ((by rw [hg]; exact (below_size (by repeat (first | (with_reducible first | exact HB.out | apply below_alloc | apply pw_below_drewN | apply below_drew1 | refine below_set ?_ GE129.out) | exact HB.out))) : w.heap.size ≤ gb132)); have n5_ := Aside0.mk ((by rw [hg]; exact Nat.ne_of_lt (blk_lt (g := gb129) (o := .cells #[.slice (some ad131) l0_0.length c0_0] 24 (0, 0)) (by (with_reducible repeat (first | refine blk_drewN ?_ _ | refine blk_drew ?_ | refine blk_alloc ?_ _)); exact BK129.out)) : gb129 ≠ gb132)); have n6_ := Aside0.mk ((by rw [hg]; exact Nat.ne_of_gt (blk_lt (g := gb129) (o := .cells #[.slice (some ad131) l0_0.length c0_0] 24 (0, 0)) (by (with_reducible repeat (first | refine blk_drewN ?_ _ | refine blk_drew ?_ | refine blk_alloc ?_ _)); exact BK129.out)) : gb132 ≠ gb129)); clear BK129; clear HB; have BK129 := n0_; have HB := n1_; have BK132 := n2_; have GW132 := n3_; have GE132 := n4_; have NB129_132 := n5_; have NB132_129 := n6_; clear n0_ n1_ n2_ n3_ n4_ n5_ n6_; clear hb hbox hg; have hnb23 := NB132_129.out; have hnc23 := NB129_132.out; have hcz24_0 : w22.cell? ⟨gb132, 0, none⟩ = some (.int .i64 0) := (blk_cell BK132.out 0).trans rfl; have hcz24_1 : w22.cell? ⟨gb132, 1, none⟩ = some (.int .i64 0) := (blk_cell BK132.out 1).trans rfl; have hcz24_2 : w22.cell? ⟨gb132, 2, none⟩ = some (.int .i64 0) := (blk_cell BK132.out 2).trans rfl; have hcz24_3 : w22.cell? ⟨gb132, 3, none⟩ = some (.slice none 0 0) := (blk_cell BK132.out 3).trans rfl; have hfz24_0 := blk_frozen BK132.out 0; have hfz24_1 := blk_frozen BK132.out 1; have hfz24_2 := blk_frozen BK132.out 2; have hfz24_3 := blk_frozen BK132.out 3))
              go_roundg k1
              case measure => have := HK1.out; omega
              case rel => exact ⟨(wrap64 (x9_1 + 1)), (by first | rfl | (simp; done) | (simp [*]; done)), H', ⟨by have := HK1.out; omega⟩, ⟨by (with_reducible repeat (first | refine blk_drewN ?_ _ | refine blk_drew ?_ | refine blk_alloc ?_ _)); refine blk_far ?_ NB129_132.out _; (with_reducible repeat (first | refine blk_drewN ?_ _ | refine blk_drew ?_ | refine blk_alloc ?_ _)); refine blk_far ?_ NB129_132.out _; (with_reducible repeat (first | refine blk_drewN ?_ _ | refine blk_drew ?_ | refine blk_alloc ?_ _)); refine blk_far ?_ NB129_132.out _; (with_reducible repeat (first | refine blk_drewN ?_ _ | refine blk_drew ?_ | refine blk_alloc ?_ _)); refine blk_far ?_ NB129_132.out _; (with_reducible repeat (first | refine blk_drewN ?_ _ | refine blk_drew ?_ | refine blk_alloc ?_ _)); exact BK129.out⟩, ⟨by repeat (first | (with_reducible first | exact HB.out | apply below_alloc | apply pw_below_drewN | apply below_drew1 | refine below_set ?_ GE129.out | refine below_set ?_ GE132.out) | exact HB.out)⟩⟩
          · rw [if_neg c10] at H
            exact absurd H (by simp)
        · rw [if_neg c9] at H
          exact absurd H (by simp)
      · rw [if_neg c7] at H
        have c7b0 : decide (x9_1 < t130) = false := decide_eq_false c7
        clear c7
        obtain rfl := Option.some.inj H
        go_wp2
        go_ret
        exact ⟨by first | rfl | (simp [errW_none, errW_some] <;> rfl) | (simp [*, errW_none, errW_some] <;> rfl), by repeat (first | (with_reducible first | exact HB.out | apply below_alloc | apply pw_below_drewN | apply below_drew1 | refine below_set ?_ GE129.out) | exact HB.out)⟩
section
def slices_Clone_int_int.f (l0 : List Int) : Option (List Int) := if l0.length * 8 ≤ 140737488355328 then some l0 else none
theorem intInfo : (Tryd.prog.info? 3).map (fun i => (i.zero, i.size, i.bytes)) = some (some (.int .i64 0), 1, 8) := by kernel_rfl
set_option maxRecDepth 100000 in
theorem clone_nil (n c : Nat) (w : World) : Calls Tryd.prog 44 #[.slice none n c] w fun e w' => e = .returned (.slice none 0 0) ∧ w = w' := by
  have hq := fun (w : World) => Lib.run_eql_slice_nil (P := Tryd.prog) w 32 3 none n c 0 0 Tryd.underlying32
  go_enter Tryd.func44, Tryd.ntmps44
  go_wp2
  go_ret
  exact ⟨rfl, rfl⟩
set_option maxRecDepth 100000 in
theorem clone_some (ad : Addr) (c0 : Nat) (l0 : List Int) (w : World) (HR : Aside0 (Kd.C (Kd.int .i64) w (some ad) l0.length l0)) (hl : l0.length * 8 ≤ 140737488355328) :
    Calls Tryd.prog 44 #[.slice (some ad) l0.length c0] w fun e w' => ∃ v0_ : Value, e = .returned v0_ ∧ Kd.R (Kd.int .i64) 3 w' w.heap.size (fun k_ => True) v0_ l0 ∧ Below w.heap.size w w' := by
  have hq := fun (w : World) => Lib.run_eql_slice_nil (P := Tryd.prog) w 32 3 (some ad) l0.length c0 0 0 Tryd.underlying32
  have HB := Aside0.mk (Below.refl w.heap.size w)
  go_enter Tryd.func44, Tryd.ntmps44
  have HO : Kd.R (Kd.int .i64) 3 (w.alloc (.cells #[] 3)) w.heap.size (fun _ => True) (.slice (some ⟨w.heap.size, 0, none⟩) 0 0) [] :=
    Kd.R_of_own (own_lit w w.heap.size 3 .i64 [] (Nat.le_refl _) (by simp)) (fun _ _ => trivial)
  have HOA := Aside0.mk HO
  clear HO
  go_wp2_with (at_builtin; refine Kd.R_append_row (w0 := w) (Value.int .i64) 0 w.heap.size rfl (.tmp 5) (.tmp 6) 32 3 (.int .i64 0) 8 rfl Tryd.underlying32 intInfo rfl (by omega) _ [] l0 (some ad) _ _ (fun _ => True) rfl rfl (fun _ _ => trivial) HOA.out (Kd.C_alloc HR.out _) (below_alloc (Below.refl _ _) _) (by simp) (by simpa using hl) ?_; intro v1 w1 ho hb hg hat; have H1 := Aside0.mk ho; have H2 := Aside0.mk hb; clear ho hb hg hat)
  go_ret
  exact ⟨v1, rfl, H1.out, H2.out⟩
theorem slices_Clone_int_int.calls (A0 : Option Addr) (c0 : Nat) (l0 : List Int) (r : List Int) (w : World) (hr0 : Kd.C (Kd.int .i64) w A0 l0.length l0) (hc0 : l0.length ≤ c0) (h : slices_Clone_int_int.f l0 = some r) :
    Calls Tryd.prog 44 #[.slice A0 l0.length c0] w fun e w' => ∃ v0_ : Value, e = .returned v0_ ∧ Kd.R (Kd.int .i64) 3 w' w.heap.size (fun k_ => True) v0_ r ∧ Below w.heap.size w w' := by
  unfold slices_Clone_int_int.f at h
  by_cases hl : l0.length * 8 ≤ 140737488355328
  · rw [if_pos hl] at h
    obtain rfl := Option.some.inj h
    cases A0 with
    | none =>
      have h0 : l0 = [] := by
        cases l0 with
        | nil => rfl
        | cons a l => obtain ⟨ad, e, _⟩ := hr0.2.2 (by simp); cases e
      subst h0
      refine (clone_nil 0 c0 w).mono ?_
      rintro e w' ⟨rfl, rfl⟩
      exact ⟨_, rfl, Kd.R_nil _ _ _ _ _, Below.refl _ _⟩
    | some ad => exact clone_some ad c0 l0 w ⟨hr0⟩ hl
  · rw [if_neg hl] at h; cases h
end
end Go.Proofs.YtfgalpfiggnkpaaDoor.PT
