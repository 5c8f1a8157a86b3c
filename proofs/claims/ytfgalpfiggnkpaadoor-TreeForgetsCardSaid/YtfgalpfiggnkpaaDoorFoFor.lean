/- What treeForgets_card uses of the printed words and contracts. -/
import Derived.Test.YtfgalpfiggnkpaaDoorFoGat
import Derived.Test.YtfgalpfiggnkpaaDoorFoRem
import Derived.Test.YtfgalpfiggnkpaaDoorFoPTx15
namespace Go.Proofs.YtfgalpfiggnkpaaDoor.PT
open Go.RowKit Go.Proofs.YtfgalpfiggnkpaaDoorW.PrintWords Go.Proofs.YtfgalpfiggnkpaaDoorW.PrintLast Go.Proofs.YtfgalpfiggnkpaaDoorW.PrintMore
set_option linter.unusedVariables false
set_option linter.unusedSimpArgs false
structure Left (t X : List S45) (n m i : Nat) : Prop where
  ok : Ok X m
  wf : X.all (fun n => wfI n.f1) = true
  mn : m ≤ n
  i7 : i ≤ 7
  tl : t.length = 2 * n - 1
  far : ∀ x, (nodeN X x).f0 ≤ 0 ∨ x ≠ 2 * i
  un : ∀ x, (i : Int) ∉ (nodeN X x).f3
  dir : ∀ x, x % 2 = 1 → fstT.getD x 0 ≤ (i : Int) → (i : Int) ≤ lstT.getD x 0 → ¬ 0 < (nodeN X x).f0
  same : ∀ j, j < m → j ≠ i → nodeN X (2 * j) = nodeN t (2 * j)
theorem for_l1 {t X : List S45} {n m i : Nat} (h : Left t X n m i) : ∀ (d a : Nat), a + d = m → Ends (fun k => phratrylaw08_TreeForgets.l1 k (i : Int) (a : Int) t X) true := by
  have hn8 := h.ok.n8
  have hl := h.ok.len
  have htl := h.tl
  have hmn := h.mn
  intro d
  induction d with
  | zero =>
    intro a ha
    refine Ends.step (Ends.from 0 (fun k _ => ?_) alive_bind)
    simp only [phratrylaw08_TreeForgets.l1, h.ok.size h.wf, Option.bind_some]
    rw [if_neg (by omega)]
  | succ d ih =>
    intro a ha
    refine Ends.step (Ends.from 10 (fun k hk => ?_) (ih (a + 1) (by omega)))
    simp only [phratrylaw08_TreeForgets.l1, h.ok.size h.wf, Option.bind_some]
    rw [if_pos (by omega), w1 a (by omega), w2 a (by omega)]
    by_cases e : a = i
    · rw [if_pos (by omega)]
    · have hs := h.same a (by omega) e
      have hf : (nodeN t (2 * a)).f3 = [] := by rw [← hs]; exact leafB_un (h.ok.leaf (by omega))
      rw [if_neg (by omega), if_pos (by omega), if_pos (by omega), if_pos (by omega), rd2, rd2, hs, node_same _ k (by rw [hf]; simp) (by rw [hf]; simp; omega), Option.bind_some, if_pos rfl]
theorem for_l0 {t X : List S45} {n m i : Nat} (h : Left t X n m i) : ∀ (d a : Nat), a + d = X.length → Ends (fun k => phratrylaw08_TreeForgets.l0 k (i : Int) (a : Int) t X) true := by
  have hn8 := h.ok.n8
  have hl15 := h.ok.len15
  have hi7 := h.i7
  intro d
  induction d with
  | zero =>
    intro a ha
    refine Ends.step (Ends.from 0 (fun k _ => ?_) (for_l1 h m 0 (by omega)))
    simp only [phratrylaw08_TreeForgets.l0]
    rw [if_neg (by omega)]
    rfl
  | succ d ih =>
    intro a ha
    have hax : a < X.length := by omega
    have hj1 : Ends (fun k => phratrylaw08_TreeForgets.j1 k (i : Int) (a : Int) false t X) true := by
      refine Ends.step (Ends.from 0 (fun k _ => ?_) (ih (a + 1) (by omega)))
      simp only [phratrylaw08_TreeForgets.j1]
      have htm : Int.tmod (a : Int) 2 = ((a % 2 : Nat) : Int) := by rw [Int.tmod_eq_emod_of_nonneg (by omega)]; omega
      rw [if_neg (by simp), w1 a (by omega), htm]
      by_cases ho : a % 2 = 1
      · rw [if_pos (by omega), if_pos (by omega), if_pos (by omega), rd_at]
        by_cases hp : (nodeN X a).f0 > 0
        · have hz : namesN X i [(a : Int)] = 0 := by
            unfold namesN nameB
            rw [List.countP_cons_of_neg, List.countP_nil]
            intro hh
            have hd := h.dir a ho
            simp only [Int.toNat_natCast, Bool.or_eq_true, Bool.and_eq_true, decide_eq_true_eq] at hh
            rcases hh with hh | ⟨⟨-, h1, h2⟩, -⟩
            · omega
            · exact hd h1 h2 hp
          rw [if_pos hp, names_any h.ok hi7 [(a : Int)] (by simp) (fun e he => by rw [List.mem_singleton.1 he]; omega), hz, Option.bind_some, if_neg (by simp)]
        · rw [if_neg hp]
      · rw [if_neg (by omega)]
    refine Ends.step (Ends.from 100 (fun k hk => ?_) hj1)
    simp only [phratrylaw08_TreeForgets.l0]
    have hres : tree_Resolution.f X (a : Int) = some (resT X a, 0) := by
      unfold tree_Resolution.f
      rw [if_pos h.wf, if_pos h.ok.ok, if_pos ⟨by omega, by omega⟩, Int.toNat_natCast]
    have hrl := resT_len h.ok.ok hax
    have hno : (2 * (i : Int)) ∉ resT X a := by
      intro hm
      obtain ⟨y, hy, hc | ⟨u, hu, hc⟩⟩ := resF_from _ _ _ hm
      · rcases h.far y with hf | hf
        · omega
        · omega
      · have : u = (i : Int) := by omega
        subst this
        exact h.un y hu
    have hul : (rd_T45 X (a : Int)).f3.length ≤ 8 := by
      rw [rd_at]; exact ((small_of_ok h.ok.ok h.ok.ne).un a).1
    have hun : (i : Int) ∉ (rd_T45 X (a : Int)).f3 := by rw [rd_at]; exact h.un a
    rw [if_pos (by omega), hres, Option.bind_some, if_pos rfl, w2 i (by omega)]
    dsimp only
    rw [hasL_at _ _ k (by omega) (by omega), Option.bind_some, decide_eq_false hno, if_neg (by simp), if_pos (by omega), hasL_at _ _ k (by omega) (by omega), Option.bind_some, decide_eq_false hun]
theorem forgets_pure {t : List S45} (h : Came t) (m : Int) : Ends (fun k => phratrylaw08_TreeForgets.f k t m) true := by
  unfold phratrylaw08_TreeForgets.f
  refine gate h (fun k b => if b = true then (some true) else ((tree_Find.f k t m).bind fun t349 => ((tree_Remove.f t m).bind fun bt350 => (if bt350.2 = 0 then (phratrylaw08_TreeForgets.l0 k t349 0 t bt350.1) else (if (bt350.1.length : Int) = 0 then ((phratrylaw08_alive.f k).bind fun t355 => (some t355)) else (some false)))))) true ⟨0, fun k _ => rfl⟩ ?_
  have hfd : ∀ k, 10 ≤ k → tree_Find.f k t m = some (findT t m) := fun k hk => at_rounds (g := fun k => tree_Find.f k t m) (tree_Find.mono _ _) hk (find_at h.wf m)
  have hbad : ∀ e : Int, e ≠ 0 → tree_Remove.f t m = some ([], e) → Ends (fun k => if false = true then (some true) else ((tree_Find.f k t m).bind fun t349 => ((tree_Remove.f t m).bind fun bt350 => (if bt350.2 = 0 then (phratrylaw08_TreeForgets.l0 k t349 0 t bt350.1) else (if (bt350.1.length : Int) = 0 then ((phratrylaw08_alive.f k).bind fun t355 => (some t355)) else (some false)))))) true := by
    intro e he hr
    refine Ends.from 10 (fun k hk => ?_) alive_bind
    show (if false = true then (some true) else _) = _
    rw [if_neg (by simp), hfd k hk, Option.bind_some, hr, Option.bind_some, if_neg he, if_pos (by simp)]
  by_cases hok : okB t = true
  · by_cases hf : findT t m < 0
    · exact hbad 7 (by decide) (by unfold tree_Remove.f; rw [if_pos h.wf, if_pos hok, if_pos hf])
    by_cases hm : (memT t).length = 1
    · exact hbad 9 (by decide) (by unfold tree_Remove.f; rw [if_pos h.wf, if_pos hok, if_neg hf, if_pos hm])
    have hne : t ≠ [] := by
      intro e
      subst e
      exact hf (by unfold findT; simp [okB, lvsN, findFrom])
    have hO := ok_of hok hne
    obtain ⟨n, hn⟩ : ∃ n, n = lvsN t := ⟨_, rfl⟩
    rw [← hn] at hO
    rcases findT_spec hO m with ⟨h1, _⟩ | ⟨i, h1, h2, h3, h4⟩
    · omega
    have hrm : tree_Remove.f t m = some (remT t n i, 0) := by
      unfold tree_Remove.f
      rw [if_pos h.wf, if_pos hok, if_neg hf, if_neg hm, h1, Int.toNat_natCast, ← hn]
    obtain ⟨q, hq, hqn, hnd, hst⟩ := rem_spec hO h2 (other_of hO h2 h3 hm)
    have hn8 := hO.n8
    have hql := hq.len
    have hcl : ∀ j, nodeN (cutT t n i) (2 * j) = if j = i then z45 else nodeN t (2 * j) := fun j => cut_leaf hO h2
    have hLeft : Left t (remT t n i) n q i := by
      have hat : ∀ x, nodeN (remT t n i) x = z45 ∨ (x < 2 * q - 1 ∧ x ∉ dirL n i ∧ x ≠ 2 * i ∧ nodeN (remT t n i) x = nodeN t x) := by
        intro x
        rcases Nat.lt_or_ge x (2 * q - 1) with hx | hx
        · rw [hnd x hx, node_cut]
          by_cases hc : x ∈ dirL n i ∨ x = 2 * i
          · rw [if_pos hc]; exact .inl rfl
          · rw [if_neg hc]; exact .inr ⟨hx, fun e => hc (.inl e), fun e => hc (.inr e), rfl⟩
        · exact .inl (nodeN_out (by omega))
      refine ⟨hq, wf_iff.2 fun x => ?_, hqn, by omega, hO.len, fun x => ?_, fun x hx => ?_, fun x ho ha hb hp => ?_, fun j hj hji => ?_⟩
      · rcases hat x with e | ⟨-, -, -, e⟩
        · rw [e]; decide
        · rw [e]; exact wf_iff.1 h.wf x
      · rcases hat x with e | ⟨-, -, hx, -⟩
        · left; rw [e]; decide
        · exact .inr hx
      · rcases hat x with e | ⟨hx1, hx2, -, e⟩
        · rw [e] at hx; cases hx
        · rw [e] at hx
          obtain ⟨a1, a2, a3, a4, -⟩ := hO.un hx
          exact hx2 ((dir_iff hO.pow h2 a1).2 ⟨a2, a3, a4⟩)
      · rcases hat x with e | ⟨hx1, hx2, -, e⟩
        · rw [e] at hp; exact absurd hp (by decide)
        · exact hx2 ((dir_iff hO.pow h2 (by omega)).2 ⟨ho, ha, hb⟩)
      · rw [hnd _ (by omega), hcl, if_neg hji]
    refine Ends.from 10 (fun k hk => ?_) (for_l0 hLeft (remT t n i).length 0 (by omega))
    show (if false = true then (some true) else _) = _
    rw [if_neg (by simp), hfd k hk, Option.bind_some, hrm, Option.bind_some, if_pos rfl, h1]
    rfl
  · exact hbad 1 (by decide) (by unfold tree_Remove.f; rw [if_pos h.wf, if_neg hok])
end Go.Proofs.YtfgalpfiggnkpaaDoor.PT
