/- What treeFresh_card uses of the printed words and contracts. -/
import Derived.Test.YtfgalpfiggnkpaaDoorFrRem
namespace Go.Proofs.YtfgalpfiggnkpaaDoor.PT
open Go.RowKit Go.Proofs.YtfgalpfiggnkpaaDoorW.PrintWords Go.Proofs.YtfgalpfiggnkpaaDoorW.PrintLast Go.Proofs.YtfgalpfiggnkpaaDoorW.PrintMore
set_option linter.unusedVariables false
set_option linter.unusedSimpArgs false
theorem insL_mem {l : List Int} {i : Nat} {a u : Int} : u ∈ insL l i a ↔ u = a ∨ u ∈ l := by
  unfold insL
  rw [List.mem_append, List.mem_cons]
  have h : u ∈ l ↔ u ∈ l.take i ∨ u ∈ l.drop i := by
    conv => lhs; rw [← List.take_append_drop i l]
    rw [List.mem_append]
  rw [h]
  constructor
  · rintro (h | h | h)
    · exact .inr (.inl h)
    · exact .inl h
    · exact .inr (.inr h)
  · rintro (h | h | h)
    · exact .inr (.inl h)
    · exact .inl h
    · exact .inr (.inr h)
theorem insL_sorted (a : Int) : ∀ {l : List Int}, l.Pairwise (· < ·) → a ∉ l → (insL l (posN l a) a).Pairwise (· < ·) := by
  intro l
  induction l with
  | nil => intro _ _; simp [insL, posN]
  | cons b l ih =>
    intro hs hn
    obtain ⟨h1, h2⟩ := List.pairwise_cons.1 hs
    have hab : a ≠ b := fun e => hn (by rw [e]; exact List.mem_cons_self)
    have hal : a ∉ l := fun e => hn (List.mem_cons_of_mem _ e)
    by_cases hb : b < a
    · have hp : posN (b :: l) a = posN l a + 1 := by unfold posN; rw [List.takeWhile_cons_of_pos (by simpa using hb)]; rfl
      have he : insL (b :: l) (posN l a + 1) a = b :: insL l (posN l a) a := by unfold insL; simp
      rw [hp, he, List.pairwise_cons]
      refine ⟨fun u hu => ?_, ih h2 hal⟩
      rcases insL_mem.1 hu with rfl | hu
      · exact hb
      · exact h1 u hu
    · have hp : posN (b :: l) a = 0 := by unfold posN; rw [List.takeWhile_cons_of_neg (by simpa using hb)]; rfl
      have he : insL (b :: l) 0 a = a :: b :: l := by unfold insL; simp
      rw [hp, he, List.pairwise_cons]
      refine ⟨fun u hu => ?_, hs⟩
      rcases List.mem_cons.1 hu with rfl | hu
      · omega
      · have := h1 u hu; omega
theorem insN_zero (a : Nat) : insN a z45 = z45 := insN_no (by decide)
theorem node_note {a x : Nat} : ∀ (xs : List Nat) (T : List S45), xs.Nodup → nodeN (noteL T a xs) x = if x ∈ xs then insN a (nodeN T x) else nodeN T x := by
  intro xs
  induction xs with
  | nil => intro T _; simp [noteL]
  | cons y ys ih =>
    intro T hnd
    obtain ⟨h1, h2⟩ := List.nodup_cons.1 hnd
    simp only [noteL]
    rw [ih _ h2]
    have hset : nodeN (T.set y (insN a (nodeN T y))) x = if x = y then insN a (nodeN T y) else nodeN T x := by
      rw [nodeN_set]
      by_cases e : x = y
      · subst e
        by_cases h : x < T.length
        · rw [if_pos ⟨rfl, h⟩, if_pos rfl]
        · rw [if_neg (fun hh => h hh.2), if_pos rfl, nodeN_out (by omega), insN_zero]
      · rw [if_neg (fun hh => e hh.1), if_neg e]
    rw [hset]
    by_cases e : x = y
    · subst e
      rw [if_neg h1, if_pos rfl, if_pos List.mem_cons_self]
    · rw [if_neg e]
      by_cases hm : x ∈ ys
      · rw [if_pos hm, if_pos (List.mem_cons_of_mem _ hm)]
      · rw [if_neg hm, if_neg (fun hh => by rcases List.mem_cons.1 hh with hh | hh; exact e hh; exact hm hh)]
theorem add_node {t : List S45} {n a : Nat} {nd : S45} (hn : Pow n) (ha : a < n) (hl : t.length ≤ 2 * n - 1) {x : Nat} :
    nodeN (addT t a n nd) x = if x ∈ dirL n a then insN a (nodeN t x) else if x = 2 * a then nd else nodeN t x := by
  unfold addT
  rw [node_note _ _ (dirL_nodup n a hn ha)]
  have hs : nodeN ((t ++ List.replicate (2 * n - 1 - t.length) z45).set (2 * a) nd) x = if x = 2 * a then nd else nodeN t x := by
    rw [nodeN_set, nodeN_more]
    by_cases e : x = 2 * a
    · rw [if_pos ⟨e, by rw [List.length_append, List.length_replicate]; omega⟩, if_pos e]
    · rw [if_neg (fun hh => e hh.1), if_neg e]
  rw [hs]
  by_cases hd : x ∈ dirL n a
  · have := dir_odd hn ha hd
    rw [if_pos hd, if_pos hd, if_neg (by omega)]
  · rw [if_neg hd, if_neg hd]
theorem add_len {t : List S45} {n a : Nat} {nd : S45} (hn : Pow n) (hl : t.length ≤ 2 * n - 1) : (addT t a n nd).length = 2 * n - 1 := by
  unfold addT
  rw [noteL_len, List.length_set, List.length_append, List.length_replicate]
  omega
theorem add_leaf {t : List S45} {n a : Nat} {nd : S45} (hn : Pow n) (ha : a < n) (hl : t.length ≤ 2 * n - 1) {j : Nat} : nodeN (addT t a n nd) (2 * j) = if j = a then nd else nodeN t (2 * j) := by
  rw [add_node hn ha hl, if_neg (fun hh => by have := (dir_odd hn ha hh).1; omega)]
  by_cases e : j = a
  · rw [if_pos (by omega), if_pos e]
  · rw [if_neg (by omega), if_neg e]
theorem insN_f1 (a : Nat) (s : S45) : (insN a s).f0 = s.f0 ∧ (insN a s).f1 = s.f1 ∧ (insN a s).f2 = s.f2 := by unfold insN; split <;> exact ⟨rfl, rfl, rfl⟩
theorem add_ok {t : List S45} {n a : Nat} {nd : S45} (hn : Pow n) (ha : a < n) (hl : t.length ≤ 2 * n - 1) (leaf : ∀ j, j < n → j ≠ a → leafB (nodeN t (2 * j)) = true)
    (par : ∀ x, x < 2 * n - 1 → x % 2 = 1 → parentB t x = true) (hbl : (nodeN t (2 * a)).f0 = 0) (dist : ∀ i j, i < n → j < n → 0 < (nodeN t (2 * i)).f0 → 0 < (nodeN t (2 * j)).f0 → (nodeN t (2 * i)).f1 = (nodeN t (2 * j)).f1 → i = j)
    (hnew : ∀ j, j < n → 0 < (nodeN t (2 * j)).f0 → (nodeN t (2 * j)).f1 ≠ nd.f1) (h1 : 0 < nd.f0) (hlf : leafB nd = true) (top : n / 2 ≤ a ∨ ∃ j, j < n ∧ n / 2 ≤ j ∧ 0 < (nodeN t (2 * j)).f0) : Ok (addT t a n nd) n := by
  have HTop := Aside0.mk top
  clear top
  have hal := @add_leaf t n a nd hn ha hl
  refine Ok.mk' hn (add_len hn hl) ?_ ?_ ?_ ?_
  · intro i hi
    rw [hal]
    split
    · exact hlf
    · rename_i e; exact leaf i hi e
  · intro x hx ho
    have hnx := @add_node t n a nd hn ha hl x
    have hp := par x hx ho
    have hne : x ≠ 2 * a := by omega
    have hleaves : ∀ u : Int, 0 ≤ u → (nodeN t (2 * u).toNat).f0 ≠ 0 → (nodeN (addT t a n nd) (2 * u).toNat).f0 ≠ 0 := by
      intro u hu h2
      obtain ⟨v, rfl⟩ : ∃ v : Nat, u = (v : Int) := ⟨u.toNat, by omega⟩
      have hvn : (2 * (v : Int)).toNat = 2 * v := by omega
      rw [hvn] at h2 ⊢
      rw [hal]
      split
      · omega
      · exact h2
    have hf0 : 0 ≤ fstT.getD x 0 := by
      have := List.all_eq_true.1 span_fine x (List.mem_range.2 (by rcases hn with e | e | e | e <;> omega))
      simp only [Bool.and_eq_true, decide_eq_true_eq] at this
      exact this.1
    by_cases hd : x ∈ dirL n a
    · rw [if_pos hd] at hnx
      obtain ⟨-, ha1, ha2⟩ := (dir_iff hn ha hx).1 hd
      by_cases hp0 : 0 < (nodeN t x).f0
      · obtain ⟨g0, g1, g2⟩ := insN_f1 a (nodeN t x)
        unfold parentB at hp ⊢
        rw [hnx, g0, g1, g2]
        split at hp
        · rename_i hc
          have : (nodeN t x).f0 = 0 := by unfold blankB at hp; simp only [Bool.and_eq_true, decide_eq_true_eq] at hp; exact hp.1.1.1
          omega
        · rename_i hc
          rw [if_neg hc, rising_iff]
          rw [rising_iff] at hp
          have hna : (a : Int) ∉ (nodeN t x).f3 := by
            intro hm
            have := (hp.2 _ hm).2.2
            rw [show (2 * (a : Int)).toNat = 2 * a by omega] at this
            exact this hbl
          rw [insN_yes hp0]
          refine ⟨insL_sorted _ hp.1 hna, fun u hu => ?_⟩
          rcases insL_mem.1 hu with rfl | hu
          · refine ⟨ha1, ha2, ?_⟩
            rw [show (2 * (a : Int)).toNat = 2 * a by omega, hal, if_pos rfl]
            omega
          · obtain ⟨q1, q2, q3⟩ := hp.2 u hu
            exact ⟨q1, q2, hleaves u (by omega) q3⟩
      · rw [insN_no hp0] at hnx
        exact parent_same hnx hp (fun u _ b1 _ b3 => hleaves u (by omega) b3)
    · rw [if_neg hd, if_neg hne] at hnx
      exact parent_same hnx hp (fun u _ b1 _ b3 => hleaves u (by omega) b3)
  · intro i j hi hj hi2 hj2 heq
    rw [hal] at hi2 heq
    rw [hal] at hj2 heq
    by_cases ei : i = a
    · by_cases ej : j = a
      · omega
      · rw [if_pos ei] at heq
        rw [if_neg ej] at heq hj2
        exact absurd heq.symm (hnew j hj hj2)
    · rw [if_neg ei] at heq hi2
      by_cases ej : j = a
      · rw [if_pos ej] at heq
        exact absurd heq (hnew i hi hi2)
      · rw [if_neg ej] at heq hj2
        exact dist i j hi hj hi2 hj2 heq
  · by_cases hh : n / 2 ≤ a
    · exact ⟨a, ha, by rw [hal, if_pos rfl]; exact h1, hh⟩
    · rcases HTop.out with h | ⟨j, j1, j2, j3⟩
      · exact absurd h hh
      · exact ⟨j, j1, by rw [hal, if_neg (by omega)]; exact j3, j2⟩
theorem add_spec {t : List S45} (hw : t.all (fun n => wfI n.f1) = true) {m ep pub : Int} (wm : wfI m = true) :
    (∃ e : Int, e ≠ 0 ∧ tree_Add.f t m ep pub = some ([], 0, e)) ∨
    ∃ n a, tree_Add.f t m ep pub = some (addT t a n (newN m ep pub), (a : Int), 0) ∧ a < n ∧ Pow n ∧ t.length ≤ 2 * n - 1 ∧ Ok (addT t a n (newN m ep pub)) n ∧ (addT t a n (newN m ep pub)).all (fun n => wfI n.f1) = true ∧ 0 < pub ∧ okB t = true ∧ a = firstB t ∧ (n = lvsN t ∨ (a = lvsN t ∧ n = max 1 (2 * a))) ∧ (nodeN t (2 * a)).f0 = 0 := by
  by_cases hc : okB t = true ∧ 0 ≤ m ∧ 0 ≤ ep ∧ 1 ≤ pub
  · obtain ⟨hok, c1, c2, c3⟩ := hc
    by_cases hf : 0 ≤ findT t m
    · exact .inl ⟨13, by decide, by unfold tree_Add.f; rw [if_pos hw, if_pos ⟨hok, c1, c2, c3⟩, if_pos hf]⟩
    obtain ⟨f1, f2, f3⟩ := firstB_spec t
    obtain ⟨a, haq⟩ : ∃ a, a = firstB t := ⟨_, rfl⟩
    obtain ⟨N, hNq⟩ : ∃ N, N = lvsN t := ⟨_, rfl⟩
    have hlf : leafB (newN m ep pub) = true := by
      unfold leafB newN
      simp [c1, c2, c3]
    -- what is so of the old tree, empty or not
    have hall : (t = [] ∧ N = 0) ∨ Ok t N := by
      by_cases e : t = []
      · exact .inl ⟨e, by rw [hNq, e]; rfl⟩
      · exact .inr (by rw [hNq]; exact ok_of hok e)
    have hnm : ∀ j, j < N → 0 < (nodeN t (2 * j)).f0 → (nodeN t (2 * j)).f1 ≠ m := by
      intro j hj
      rcases hall with ⟨_, e⟩ | hO
      · omega
      · rcases findT_spec hO m with ⟨_, h⟩ | ⟨i, h, _⟩
        · exact h j hj
        · omega
    have hlen : t.length = 2 * N - 1 := by
      rcases hall with ⟨e, e2⟩ | hO
      · rw [e, e2]; rfl
      · exact hO.len
    have hout : ∀ x, 2 * N - 1 ≤ x → nodeN t x = z45 := fun x hx => nodeN_out (by omega)
    have hoN : ∀ j, 0 < (nodeN t (2 * j)).f0 → j < N := by
      intro j hj
      rcases Nat.lt_or_ge j N with h | h
      · exact h
      · rw [hout _ (by omega)] at hj; exact absurd hj (by decide)
    have hleaf : ∀ j, leafB (nodeN t (2 * j)) = true := by
      intro j
      rcases Nat.lt_or_ge j N with h | h
      · rcases hall with ⟨_, e⟩ | hO
        · omega
        · exact hO.leaf h
      · rw [hout _ (by omega)]; exact z45_leaf
    have hpar : ∀ x, x % 2 = 1 → parentB t x = true := by
      intro x ho
      rcases Nat.lt_or_ge x (2 * N - 1) with h | h
      · rcases hall with ⟨_, e⟩ | hO
        · omega
        · exact hO.parent h ho
      · exact z45_parent (hout _ h)
    have hdist : ∀ i j, 0 < (nodeN t (2 * i)).f0 → 0 < (nodeN t (2 * j)).f0 → (nodeN t (2 * i)).f1 = (nodeN t (2 * j)).f1 → i = j := by
      intro i j hi hj he
      have h1 := hoN i hi
      have h2 := hoN j hj
      rcases hall with ⟨_, e⟩ | hO
      · omega
      · exact hO.dist' h1 h2 hi hj he
    have hbl : (nodeN t (2 * a)).f0 = 0 := by
      rcases Nat.lt_or_ge a N with h | h
      · have h3 := f3 (by rw [← haq, ← hNq]; exact h)
        rw [← haq] at h3
        rcases hall with ⟨_, e⟩ | hO
        · omega
        · have := hO.sign h; omega
      · rw [hout _ (by omega)]; rfl
    have hwf : ∀ n, Pow n → a < n → t.length ≤ 2 * n - 1 → (addT t a n (newN m ep pub)).all (fun n => wfI n.f1) = true := by
      intro n hn han hl
      refine List.all_eq_true.2 (fun s hs => ?_)
      obtain ⟨x, hx, rfl⟩ := List.getElem_of_mem hs
      have hnx := @add_node t n a (newN m ep pub) hn han hl x
      have hg : nodeN (addT t a n (newN m ep pub)) x = (addT t a n (newN m ep pub))[x] := by
        unfold nodeN
        rw [List.getD_eq_getElem?_getD, List.getElem?_eq_getElem hx]; rfl
      rw [← hg, hnx]
      have hold : wfI (nodeN t x).f1 = true := by
        rcases nodeN_mem (T := t) (x := x) with e | e
        · rw [e]; decide
        · exact List.all_eq_true.1 hw _ e
      split
      · rw [(insN_f1 _ _).2.1]; exact hold
      · split
        · exact wm
        · exact hold
    have hmk : ∀ n, Pow n → a < n → t.length ≤ 2 * n - 1 → (n / 2 ≤ a ∨ ∃ j, j < n ∧ n / 2 ≤ j ∧ 0 < (nodeN t (2 * j)).f0) → Ok (addT t a n (newN m ep pub)) n := fun n hn han hl htop =>
      add_ok hn han hl (fun j _ _ => hleaf j) (fun x _ ho => hpar x ho) hbl (fun i j _ _ => hdist i j) (fun j _ hp => hnm j (hoN j hp) hp) (by show 0 < pub; omega) hlf htop
    by_cases hr : a < N
    · have hO : Ok t N := by rcases hall with ⟨_, e⟩ | hO; omega; exact hO
      obtain ⟨j, j1, j2, j3⟩ := hO.top'
      refine .inr ⟨N, a, ?_, hr, hO.pow, by omega, hmk N hO.pow hr (by omega) (.inr ⟨j, j1, j3, j2⟩), hwf N hO.pow hr (by omega), by omega, hok, haq, .inl hNq, hbl⟩
      unfold tree_Add.f
      rw [if_pos hw, if_pos ⟨hok, c1, c2, c3⟩, if_neg hf, ← haq, ← hNq, if_pos hr]
    · have haN : a = N := by omega
      by_cases h8 : N = 8
      · exact .inl ⟨3, by decide, by unfold tree_Add.f; rw [if_pos hw, if_pos ⟨hok, c1, c2, c3⟩, if_neg hf, ← haq, ← hNq, if_neg hr, if_pos h8]⟩
      · have hpow : Pow (max 1 (2 * a)) := by
          unfold Pow
          rcases hall with ⟨_, e⟩ | hO
          · omega
          · rcases hO.pow with e | e | e | e <;> omega
        refine .inr ⟨max 1 (2 * a), a, ?_, by omega, hpow, by omega, hmk _ hpow (by omega) (by omega) (.inl (by omega)), hwf _ hpow (by omega) (by omega), by omega, hok, haq, .inr ⟨by omega, rfl⟩, hbl⟩
        unfold tree_Add.f
        rw [if_pos hw, if_pos ⟨hok, c1, c2, c3⟩, if_neg hf, ← haq, ← hNq, if_neg hr, if_neg h8]
  · exact .inl ⟨1, by decide, by unfold tree_Add.f; rw [if_pos hw, if_neg hc]⟩
end Go.Proofs.YtfgalpfiggnkpaaDoor.PT
