/- What treeFresh_card uses of the printed words and contracts. -/
import Derived.Test.YtfgalpfiggnkpaaDoorFrPTx0
import Derived.Test.YtfgalpfiggnkpaaDoorFrPTx1
import Derived.Test.YtfgalpfiggnkpaaDoorFrPTx3
import Derived.Test.YtfgalpfiggnkpaaDoorFrPTx4
import Derived.Test.YtfgalpfiggnkpaaDoorFrPTx6
import Derived.Test.YtfgalpfiggnkpaaDoorFrPTx7
import Derived.Test.YtfgalpfiggnkpaaDoorFrPTx8
import Derived.Test.YtfgalpfiggnkpaaDoorFrPTx9
import Derived.Test.YtfgalpfiggnkpaaDoorFrPTx10
namespace Go.Proofs.YtfgalpfiggnkpaaDoor.PT
open Go.RowKit Go.Proofs.YtfgalpfiggnkpaaDoorW.PrintWords Go.Proofs.YtfgalpfiggnkpaaDoorW.PrintLast Go.Proofs.YtfgalpfiggnkpaaDoorW.PrintMore
attribute [local go_sem] max2_int min2_int max_two min_two max_three min_three max_four min_four   -- for this text's walks alone
set_option linter.unusedVariables false
set_option linter.unusedSimpArgs false
section
def pathTo (t : List S45) (n i : Nat) : Nat → List Nat
  | 0 => []
  | k + 1 => if resT t ((copL n i).getD k 0) = [] then pathTo t n i k else pathTo t n i k ++ [(dirL n i).getD k 0]
def pathN (t : List S45) (i : Nat) : List Nat := pathTo t (lvsN t) i (dirL (lvsN t) i).length
theorem rows_path (t : List S45) (n i : Nat) : ∀ k, (rowsTo t n i k).map S71.f0 = (pathTo t n i k).map (fun (x : Nat) => (x : Int)) := by
  intro k
  induction k with
  | zero => rfl
  | succ k ih =>
    simp only [rowsTo, pathTo]
    split
    · exact ih
    · rw [List.map_append, List.map_append, ih]; rfl
theorem path_go (rows : List S71) (e : Int) (hl : rows.length ≤ 1000) : ∀ (d i k : Nat) (l : List Int), i + d = rows.length → d < k → l = (rows.take i).map S71.f0 → tree_Path.l0 k e l rows (rows.length : Int) (i : Int) = some (rows.map S71.f0, e) := by
  intro d
  induction d with
  | zero =>
    intro i k l hi hk hll
    obtain ⟨k, rfl⟩ : ∃ q, k = q + 1 := ⟨k - 1, by omega⟩
    simp only [tree_Path.l0]
    rw [if_neg (by omega), hll, List.take_of_length_le (by omega)]
  | succ d ih =>
    intro i k l hi hk hll
    obtain ⟨k, rfl⟩ : ∃ q, k = q + 1 := ⟨k - 1, by omega⟩
    have hw1 : wrap64 ((i : Int) + 1) = ((i + 1 : Nat) : Int) := by unfold wrap64; omega
    have hlen : l.length < 17592186044416 := by rw [hll, List.length_map, List.length_take]; omega
    simp only [tree_Path.l0]
    rw [if_pos (by omega), if_pos (by omega), if_pos (by omega), if_pos hlen, hw1]
    refine ih (i + 1) k _ (by omega) (by omega) ?_
    rw [hll, List.take_succ_eq_append_getElem (by omega), List.map_append]
    congr 1
    unfold rd_T71
    rw [Int.toNat_natCast, List.getD_eq_getElem?_getD, List.getElem?_eq_getElem (by omega)]
    rfl
theorem path_at {t : List S45} {leaf : Int} {rows : List S71} {e : Int} (h : tree_rows.f t leaf = some (rows, e)) : tree_Path.f 10 t leaf = some (rows.map S71.f0, e) := by
  have hl := (rows_small h).1
  unfold tree_Path.f
  rw [h, Option.bind_some]
  exact path_go rows e (by omega) rows.length 0 10 [] (by omega) (by omega) rfl
theorem pathTo_len (t : List S45) (n i : Nat) : ∀ k, (pathTo t n i k).length ≤ k := by
  intro k
  induction k with
  | zero => simp [pathTo]
  | succ k ih =>
    simp only [pathTo]
    split
    · omega
    · simp; omega
theorem pathTo_mem (t : List S45) (n i : Nat) : ∀ k, k ≤ (dirL n i).length → ∀ x ∈ pathTo t n i k, x ∈ dirL n i := by
  intro k
  induction k with
  | zero => intro _ x hx; simp [pathTo] at hx
  | succ k ih =>
    intro hk x hx
    simp only [pathTo] at hx
    split at hx
    · exact ih (by omega) x hx
    · rcases List.mem_append.1 hx with hx | hx
      · exact ih (by omega) x hx
      · rw [List.mem_singleton.1 hx, List.getD_eq_getElem?_getD, List.getElem?_eq_getElem (by omega)]
        exact List.getElem_mem _
def pubTo (T : List S45) (pl : List Nat) (qs : List Int) : Nat → List S45
  | 0 => T
  | k + 1 => (pubTo T pl qs k).set (pl.getD k 0) { nodeN (pubTo T pl qs k) (pl.getD k 0) with f0 := qs.getD k 0 }
def setT (t : List S45) (i : Nat) (ep pub : Int) (qs : List Int) : List S45 :=
  pubTo (blankL (t.set (2 * i) { nodeN t (2 * i) with f2 := ep, f0 := pub }) (dirL (lvsN t) i)) (pathN t i) qs (pathN t i).length
theorem pubTo_len (T : List S45) (pl : List Nat) (qs : List Int) : ∀ k, (pubTo T pl qs k).length = T.length := by
  intro k
  induction k with
  | zero => rfl
  | succ k ih => rw [pubTo, List.length_set, ih]
theorem ca_set0 {cs : List Value} {i : Nat} {a b c d : Value} (v : Value) (h : ca cs i = [a, b, c, d]) : ca (cs.set (i * 4) v) i = [v, b, c, d] := by
  obtain ⟨h0, h1, h2, h3⟩ := ca_get h
  refine ca_of ?_ ?_ ?_ ?_
  · rw [List.getElem?_set_self (List.getElem?_eq_some_iff.1 h0).1]
  · rw [List.getElem?_set_ne (by omega)]; exact h1
  · rw [List.getElem?_set_ne (by omega)]; exact h2
  · rw [List.getElem?_set_ne (by omega)]; exact h3
theorem ca_set2 {cs : List Value} {i : Nat} {a b c d : Value} (v : Value) (h : ca cs i = [a, b, c, d]) : ca (cs.set (i * 4 + 2) v) i = [a, b, v, d] := by
  obtain ⟨h0, h1, h2, h3⟩ := ca_get h
  refine ca_of ?_ ?_ ?_ ?_
  · rw [List.getElem?_set_ne (by omega)]; exact h0
  · rw [List.getElem?_set_ne (by omega)]; exact h1
  · rw [List.getElem?_set_self (List.getElem?_eq_some_iff.1 h2).1]
  · rw [List.getElem?_set_ne (by omega)]; exact h3
theorem TB.num0 {W : World} {base g : Nat} {cs us : List Value} {T : List S45} {j : Nat} {x : S45} (h : TB W base g cs us T) (hx : T[j]? = some x) (v : Int) :
    TB (W.setCell ⟨g, j * 4, none⟩ (.int .i64 v)) base g (cs.set (j * 4) (.int .i64 v)) us (T.set j { x with f0 := v }) := by
  refine ⟨h.hb, ?_, by rw [List.length_set, List.length_set]; exact h.len, by rw [List.length_set]; exact h.ul, ?_, ?_, h.ap⟩
  · have := blk_set h.blk (j * 4) (.int .i64 v)
    simpa using this
  · intro i y u hy hu
    rcases set_cases hy with ⟨rfl, rfl, _⟩ | ⟨hne, hy⟩
    · exact ca_set0 _ (h.ce i x u hx hu)
    · have h0 := ca_set_other (cs := cs) (i := j) (j := i) (c := 0) (.int .i64 v) (by omega) hne
      rw [Nat.add_zero] at h0
      rw [h0]
      exact h.ce i y u hy hu
  · intro i y u hy hu
    rcases set_cases hy with ⟨rfl, rfl, _⟩ | ⟨hne, hy⟩
    · exact TB.R_cell (h.ow i x u hx hu) _ _
    · exact TB.R_cell (h.ow i y u hy hu) _ _
theorem TB.num2 {W : World} {base g : Nat} {cs us : List Value} {T : List S45} {j : Nat} {x : S45} (h : TB W base g cs us T) (hx : T[j]? = some x) (v : Int) :
    TB (W.setCell ⟨g, j * 4 + 2, none⟩ (.int .i64 v)) base g (cs.set (j * 4 + 2) (.int .i64 v)) us (T.set j { x with f2 := v }) := by
  refine ⟨h.hb, ?_, by rw [List.length_set, List.length_set]; exact h.len, by rw [List.length_set]; exact h.ul, ?_, ?_, h.ap⟩
  · have := blk_set h.blk (j * 4 + 2) (.int .i64 v)
    simpa using this
  · intro i y u hy hu
    rcases set_cases hy with ⟨rfl, rfl, _⟩ | ⟨hne, hy⟩
    · exact ca_set2 _ (h.ce i x u hx hu)
    · rw [ca_set_other _ (by omega) hne]
      exact h.ce i y u hy hu
  · intro i y u hy hu
    rcases set_cases hy with ⟨rfl, rfl, _⟩ | ⟨hne, hy⟩
    · exact TB.R_cell (h.ow i x u hx hu) _ _
    · exact TB.R_cell (h.ow i y u hy hu) _ _
theorem BxL.num0 {A0 : Option Addr} {n c0 : Nat} {w wr : World} {B0 g b9 L M : Nat} {Ad : Option Addr} {dl : List Nat} {T : List S45} (h : BxL A0 n c0 w B0 g b9 L M Ad dl T wr) {j : Nat} {x : S45} (hx : T[j]? = some x) (v : Int) :
    BxL A0 n c0 w B0 g b9 L M Ad dl (T.set j { x with f0 := v }) (wr.setCell ⟨g, j * 4, none⟩ (.int .i64 v)) := by
  obtain ⟨cs, us, ht⟩ := h.tb
  have hgB := ht.hb
  have hlo := h.lo
  exact ⟨⟨_, _, ht.num0 hx v⟩, blk_far h.bx (show b9 ≠ g from fun e => h.gb e.symm) _, h.ab.set (by omega) _ _, h.dc_set h.dc _ _, h.ga, h.gb, h.lo⟩
def minTo (l : List Int) : Nat → Int
  | 0 => l.getD 0 0
  | k + 1 => if l.getD (k + 1) 0 < minTo l k then l.getD (k + 1) 0 else minTo l k
def minL (l : List Int) : Int := minTo l (l.length - 1)
theorem minTo_spec (l : List Int) : ∀ k, (∃ i, i ≤ k ∧ minTo l k = l.getD i 0) ∧ ∀ i, i ≤ k → minTo l k ≤ l.getD i 0 := by
  intro k
  induction k with
  | zero => exact ⟨⟨0, Nat.le_refl _, rfl⟩, fun i hi => by rw [Nat.le_zero.1 hi]; exact Int.le_refl _⟩
  | succ k ih =>
    obtain ⟨⟨i, hi, he⟩, hle⟩ := ih
    simp only [minTo]
    split
    · rename_i hlt
      refine ⟨⟨k + 1, Nat.le_refl _, rfl⟩, fun j hj => ?_⟩
      rcases Nat.lt_or_ge j (k + 1) with h | h
      · have := hle j (by omega); omega
      · rw [show j = k + 1 by omega]; exact Int.le_refl _
    · rename_i hlt
      refine ⟨⟨i, by omega, he⟩, fun j hj => ?_⟩
      rcases Nat.lt_or_ge j (k + 1) with h | h
      · exact hle j (by omega)
      · rw [show j = k + 1 by omega]; omega
theorem minL_low {l : List Int} (h0 : 0 < l.length) : minL l < 1 ↔ ∃ q ∈ l, q < 1 := by
  obtain ⟨⟨i, hi, he⟩, hle⟩ := minTo_spec l (l.length - 1)
  unfold minL
  constructor
  · intro h
    refine ⟨l.getD i 0, getD_mem l i (by omega), by rw [← he]; exact h⟩
  · rintro ⟨q, hq, h1⟩
    obtain ⟨j, hj, rfl⟩ := List.getElem_of_mem hq
    have := hle j (by omega)
    rw [List.getD_eq_getElem?_getD, List.getElem?_eq_getElem hj] at this
    have h2 : minTo l (l.length - 1) ≤ l[j] := this
    omega
set_option maxRecDepth 100000 in
theorem min_go (A : Option Addr) (c : Nat) (zs : List Int) (w : World) (HR : Aside0 (Kd.C (Kd.int .i64) w A zs.length zs)) (hz : zs.length ≤ 1000) (h0 : 0 < zs.length) :
    Calls Tryd.prog 36 #[.slice A zs.length c] w fun e w' => e = .returned (.int .i64 (minL zs)) ∧ w = w' := by
  obtain ⟨al, el, hx0⟩ := Kd.at_int HR.out 0 (by omega) (by omega)
  cases el
  rw [show (0 : Int).toNat = 0 from rfl] at hx0
  have hg0 : rd zs 0 = minTo zs 0 := rfl
  rw [hg0] at hx0
  have hxz := hx0
  rw [show al.add 0 = al from by unfold Addr.add; rw [if_pos rfl]] at hxz
  have hd1 : decide ((zs.length : Int) < 1) = false := decide_eq_false (by omega)
  clear hg0
  go_enter Tryd.func36, Tryd.ntmps36
  go_wp2
  go_loopw [3, 4] (fun v3 v4 wr => ∃ k : Nat, 1 ≤ k ∧ k ≤ zs.length ∧ v4 = .int .i64 k ∧ v3 = .int .i64 (minTo zs (k - 1)) ∧ w = wr) (fun _ v4 _ => zs.length - (intOf v4).toNat)
  case atStart => exact ⟨1, by omega, by omega, rfl, rfl, rfl⟩
  case round =>
    obtain ⟨k, hk1, hk, rfl, rfl, rfl⟩ := hrel
    by_cases hlt : k < zs.length
    · obtain ⟨al2, el, hxl⟩ := Kd.at_int HR.out (k : Int) (by omega) (by omega)
      cases el
      rw [Int.toNat_natCast] at hxl
      have hget : rd zs (k : Int) = zs.getD k 0 := by unfold rd; simp
      rw [hget] at hxl
      have HM : Aside0 (minTo zs k = if zs.getD k 0 < minTo zs (k - 1) then zs.getD k 0 else minTo zs (k - 1)) := ⟨by obtain ⟨q, rfl⟩ : ∃ q, k = q + 1 := ⟨k - 1, by omega⟩; rfl⟩
      clear hget
      generalize hE : zs.getD k 0 = E at *
      generalize hP : minTo zs (k - 1) = P at *
      have hmn : (if E < P then E else P) = minTo zs k := HM.out.symm
      clear hE hP hx0 hxz
      go_wp2
      go_roundw
      case rel => exact ⟨k + 1, by omega, by omega, by go_num, rfl, by first | rfl | trivial⟩
      case measure => simp [intOf]; omega
    · obtain rfl : k = zs.length := by omega
      go_wp2
      refine bodyPost_ret (v := .int .i64 (minTo zs (zs.length - 1))) (by simp [results, Tryd.results36, go_sem]) rfl ⟨rfl, rfl⟩
set_option maxRecDepth 100000 in
theorem set_odd (A0 : Option Addr) (c0 : Nat) (t : List S45) (leaf ep pub : Int) (Aq : Option Addr) (cq : Nat) (qs : List Int) (w : World) (HR : Aside0 (Kd.C k45 w A0 t.length t)) (HC : Aside0 (t.length ≤ c0)) (HT : Aside0 (TabG w)) (CK : Aside0 (tree_Check.f t = some 1)) :
    Calls Tryd.prog 18 #[.agg #[.slice A0 t.length c0], .int .i64 leaf, .int .i64 ep, .int .i64 pub, .slice Aq qs.length cq] w (RemErr w 1) := by
  have hu24 := Tryd.underlying24
  go_enter Tryd.func18, Tryd.ntmps18
  go_wp2_with (first | (go_at_call 10; refine (tree_Check.calls A0 c0 t _ _ (Kd.C_alloc (Kd.C_alloc HR.out _) _) HC.out ((HT.out.alloc _).alloc _) CK.out).mono ?_; rintro e w1 ⟨rfl, hb⟩; have AB := Aside0.mk (BxB.start hb); obtain ⟨x0, x1, x2⟩ := AB.out.cells; clear hb))
  have hq := (AB.out.res (.slice none 0 0)).1
  exact bodyPost_ret (v := .tuple #[.agg #[.slice none 0 0], .int .i64 1]) (by simp [results, Tryd.results18, go_sem, hq]) rfl ⟨rfl, (AB.out.res _).2⟩
set_option maxRecDepth 100000 in
theorem set_bad1 (A0 : Option Addr) (c0 : Nat) (t : List S45) (leaf ep pub : Int) (Aq : Option Addr) (cq : Nat) (qs : List Int) (w : World) (HR : Aside0 (Kd.C k45 w A0 t.length t)) (HC : Aside0 (t.length ≤ c0)) (HT : Aside0 (TabG w)) (CK : Aside0 (tree_Check.f t = some 0)) (h1 : ep < 0) :
    Calls Tryd.prog 18 #[.agg #[.slice A0 t.length c0], .int .i64 leaf, .int .i64 ep, .int .i64 pub, .slice Aq qs.length cq] w (RemErr w 1) := by
  have hu24 := Tryd.underlying24
  have d1 : decide (ep < 0) = true := decide_eq_true h1
  go_enter Tryd.func18, Tryd.ntmps18
  go_wp2_with (first | (go_at_call 10; refine (tree_Check.calls A0 c0 t _ _ (Kd.C_alloc (Kd.C_alloc HR.out _) _) HC.out ((HT.out.alloc _).alloc _) CK.out).mono ?_; rintro e w1 ⟨rfl, hb⟩; have AB := Aside0.mk (BxB.start hb); obtain ⟨x0, x1, x2⟩ := AB.out.cells; clear hb))
  have hq := (AB.out.res (.slice none 0 0)).1
  exact bodyPost_ret (v := .tuple #[.agg #[.slice none 0 0], .int .i64 1]) (by simp [results, Tryd.results18, go_sem, hq]) rfl ⟨rfl, (AB.out.res _).2⟩
set_option maxRecDepth 100000 in
theorem set_bad2 (A0 : Option Addr) (c0 : Nat) (t : List S45) (leaf ep pub : Int) (Aq : Option Addr) (cq : Nat) (qs : List Int) (w : World) (HR : Aside0 (Kd.C k45 w A0 t.length t)) (HC : Aside0 (t.length ≤ c0)) (HT : Aside0 (TabG w)) (CK : Aside0 (tree_Check.f t = some 0)) (h1 : 0 ≤ ep) (h2 : pub < 1) :
    Calls Tryd.prog 18 #[.agg #[.slice A0 t.length c0], .int .i64 leaf, .int .i64 ep, .int .i64 pub, .slice Aq qs.length cq] w (RemErr w 1) := by
  have hu24 := Tryd.underlying24
  have d1 : decide (ep < 0) = false := decide_eq_false (by omega)
  have d2 : decide (pub < 1) = true := decide_eq_true h2
  go_enter Tryd.func18, Tryd.ntmps18
  go_wp2_with (first | (go_at_call 10; refine (tree_Check.calls A0 c0 t _ _ (Kd.C_alloc (Kd.C_alloc HR.out _) _) HC.out ((HT.out.alloc _).alloc _) CK.out).mono ?_; rintro e w1 ⟨rfl, hb⟩; have AB := Aside0.mk (BxB.start hb); obtain ⟨x0, x1, x2⟩ := AB.out.cells; clear hb))
  have hq := (AB.out.res (.slice none 0 0)).1
  exact bodyPost_ret (v := .tuple #[.agg #[.slice none 0 0], .int .i64 1]) (by simp [results, Tryd.results18, go_sem, hq]) rfl ⟨rfl, (AB.out.res _).2⟩
set_option maxRecDepth 100000 in
theorem set_path (A0 : Option Addr) (c0 : Nat) (t : List S45) (leaf ep pub : Int) (Aq : Option Addr) (cq : Nat) (qs : List Int) (w : World) (HR : Aside0 (Kd.C k45 w A0 t.length t)) (HC : Aside0 (t.length ≤ c0)) (HT : Aside0 (TabG w)) (CK : Aside0 (tree_Check.f t = some 0)) (h1 : 0 ≤ ep) (h2 : 1 ≤ pub) (pl : List Int) (PT : Aside0 (tree_Path.f 10 t leaf = some (pl, 7))) :
    Calls Tryd.prog 18 #[.agg #[.slice A0 t.length c0], .int .i64 leaf, .int .i64 ep, .int .i64 pub, .slice Aq qs.length cq] w (RemErr w 7) := by
  have hu24 := Tryd.underlying24
  have d1 : decide (ep < 0) = false := decide_eq_false (by omega)
  have d2 : decide (pub < 1) = false := decide_eq_false (by omega)
  go_enter Tryd.func18, Tryd.ntmps18
  go_wp2_with (first | (go_at_call 10; refine (tree_Check.calls A0 c0 t _ _ (Kd.C_alloc (Kd.C_alloc HR.out _) _) HC.out ((HT.out.alloc _).alloc _) CK.out).mono ?_; rintro e w1 ⟨rfl, hb⟩; have AB := Aside0.mk (BxB.start hb); obtain ⟨x0, x1, x2⟩ := AB.out.cells; clear hb) | (go_at_call 17; refine (tree_Path.calls 10 A0 c0 t _ _ _ _ (Kd.C_below HR.out AB.out.bel) HC.out (TabG.below HT.out AB.out.bel) PT.out).mono ?_; rintro e w2 ⟨v2, rfl, ho, hb⟩; obtain ⟨A2, c2, rfl⟩ := Kd.R_slice ho; have AB2 := Aside0.mk (AB.out.below hb); clear x0 x1 x2; obtain ⟨x0, x1, x2⟩ := AB2.out.cells; clear hb ho))
  have hq := (AB2.out.res (.slice none 0 0)).1
  exact bodyPost_ret (v := .tuple #[.agg #[.slice none 0 0], .int .i64 7]) (by simp [results, Tryd.results18, go_sem, hq]) rfl ⟨rfl, (AB2.out.res _).2⟩
set_option maxRecDepth 100000 in
theorem set_len (A0 : Option Addr) (c0 : Nat) (t : List S45) (leaf ep pub : Int) (Aq : Option Addr) (cq : Nat) (qs : List Int) (w : World) (HR : Aside0 (Kd.C k45 w A0 t.length t)) (HC : Aside0 (t.length ≤ c0)) (HT : Aside0 (TabG w)) (CK : Aside0 (tree_Check.f t = some 0)) (h1 : 0 ≤ ep) (h2 : 1 ≤ pub) (pl : List Int) (PT : Aside0 (tree_Path.f 10 t leaf = some (pl, 0))) (hne : qs.length ≠ pl.length) :
    Calls Tryd.prog 18 #[.agg #[.slice A0 t.length c0], .int .i64 leaf, .int .i64 ep, .int .i64 pub, .slice Aq qs.length cq] w (RemErr w 1) := by
  have hu24 := Tryd.underlying24
  have d1 : decide (ep < 0) = false := decide_eq_false (by omega)
  have d2 : decide (pub < 1) = false := decide_eq_false (by omega)
  have e1 : ((qs.length : Int) == (pl.length : Int)) = false := beq_eq_false_iff_ne.2 (by omega)
  have e2 : ((qs.length : Int) != (pl.length : Int)) = true := bne_iff_ne.2 (by omega)
  clear hne
  go_enter Tryd.func18, Tryd.ntmps18
  go_wp2_with (first | (go_at_call 10; refine (tree_Check.calls A0 c0 t _ _ (Kd.C_alloc (Kd.C_alloc HR.out _) _) HC.out ((HT.out.alloc _).alloc _) CK.out).mono ?_; rintro e w1 ⟨rfl, hb⟩; have AB := Aside0.mk (BxB.start hb); obtain ⟨x0, x1, x2⟩ := AB.out.cells; clear hb) | (go_at_call 17; refine (tree_Path.calls 10 A0 c0 t _ _ _ _ (Kd.C_below HR.out AB.out.bel) HC.out (TabG.below HT.out AB.out.bel) PT.out).mono ?_; rintro e w2 ⟨v2, rfl, ho, hb⟩; obtain ⟨A2, c2, rfl⟩ := Kd.R_slice ho; have AB2 := Aside0.mk (AB.out.below hb); clear x0 x1 x2; obtain ⟨x0, x1, x2⟩ := AB2.out.cells; clear hb ho))
  have hq := (AB2.out.res (.slice none 0 0)).1
  exact bodyPost_ret (v := .tuple #[.agg #[.slice none 0 0], .int .i64 1]) (by simp [results, Tryd.results18, go_sem, hq]) rfl ⟨rfl, (AB2.out.res _).2⟩
set_option maxRecDepth 100000 in
theorem set_low (A0 : Option Addr) (c0 : Nat) (t : List S45) (leaf ep pub : Int) (Aq : Option Addr) (cq : Nat) (qs : List Int) (w : World) (HR : Aside0 (Kd.C k45 w A0 t.length t)) (HC : Aside0 (t.length ≤ c0)) (HT : Aside0 (TabG w)) (HQ : Aside0 (Kd.C (Kd.int .i64) w Aq qs.length qs)) (CK : Aside0 (tree_Check.f t = some 0)) (h1 : 0 ≤ ep) (h2 : 1 ≤ pub) (pl : List Int) (PT : Aside0 (tree_Path.f 10 t leaf = some (pl, 0))) (heq : qs.length = pl.length) (hq0 : 0 < qs.length) (hq1000 : qs.length ≤ 1000) (hlow : minL qs < 1) :
    Calls Tryd.prog 18 #[.agg #[.slice A0 t.length c0], .int .i64 leaf, .int .i64 ep, .int .i64 pub, .slice Aq qs.length cq] w (RemErr w 1) := by
  have hu24 := Tryd.underlying24
  have d1 : decide (ep < 0) = false := decide_eq_false (by omega)
  have d2 : decide (pub < 1) = false := decide_eq_false (by omega)
  have e1 : ((qs.length : Int) == (pl.length : Int)) = true := beq_iff_eq.2 (by omega)
  have e2 : ((qs.length : Int) != (pl.length : Int)) = false := by rw [bne, e1]; rfl
  have d3 : decide (0 < (qs.length : Int)) = true := decide_eq_true (by omega)
  have d4 : decide (minL qs < 1) = true := decide_eq_true hlow
  clear heq
  go_enter Tryd.func18, Tryd.ntmps18
  go_wp2_with (first | (go_at_call 10; refine (tree_Check.calls A0 c0 t _ _ (Kd.C_alloc (Kd.C_alloc HR.out _) _) HC.out ((HT.out.alloc _).alloc _) CK.out).mono ?_; rintro e w1 ⟨rfl, hb⟩; have AB := Aside0.mk (BxB.start hb); obtain ⟨x0, x1, x2⟩ := AB.out.cells; clear hb) | (go_at_call 17; refine (tree_Path.calls 10 A0 c0 t _ _ _ _ (Kd.C_below HR.out AB.out.bel) HC.out (TabG.below HT.out AB.out.bel) PT.out).mono ?_; rintro e w2 ⟨v2, rfl, ho, hb⟩; obtain ⟨A2, c2, rfl⟩ := Kd.R_slice ho; have AB2 := Aside0.mk (AB.out.below hb); clear x0 x1 x2; obtain ⟨x0, x1, x2⟩ := AB2.out.cells; clear hb ho) | (go_at_call 36; refine (min_go Aq cq qs _ ⟨Kd.C_below HQ.out AB2.out.bel⟩ hq1000 (by omega)).mono ?_; rintro e w3 ⟨rfl, rfl⟩))
  have hq := (AB2.out.res (.slice none 0 0)).1
  exact bodyPost_ret (v := .tuple #[.agg #[.slice none 0 0], .int .i64 1]) (by simp [results, Tryd.results18, go_sem, hq]) rfl ⟨rfl, (AB2.out.res _).2⟩
theorem dc_of_C {W : World} {A : Option Addr} {dl : List Nat} (hC : Kd.C (Kd.int .i64) W A dl.length (dl.map (fun (x : Nat) => (x : Int)))) : ∀ q, q < dl.length → ∃ ad, A = some ad ∧ W.cell? (ad.add q) = some (.int .i64 ((dl.getD q 0 : Nat) : Int)) := by
  intro q hq
  obtain ⟨ad, had, hc⟩ := Kd.at_int hC (q : Int) (by omega) (by omega)
  refine ⟨ad, had, ?_⟩
  rw [Int.toNat_natCast] at hc
  rw [hc]
  unfold rd
  rw [Int.toNat_natCast, List.getD_eq_getElem?_getD, List.getD_eq_getElem?_getD, List.getElem?_map, List.getElem?_eq_getElem hq]
  rfl
structure SetX (A0 : Option Addr) (n c0 : Nat) (w : World) (B0 g b9 M : Nat) (T : List S45) (Wx : World) : Prop where
  tb : ∃ cs us, TB Wx B0 g cs us T
  bx : Wx.heap[b9]? = some (.cells #[.slice (some ⟨g, 0, none⟩) M M] 24 (0, 0))
  ab : BxB A0 n c0 w Wx
  gb : g ≠ b9
  lo : w.heap.size + 1 + 1 ≤ B0
theorem SetX.below {A0 : Option Addr} {n c0 : Nat} {w : World} {B0 g b9 M : Nat} {T : List S45} {Wx W : World} (h : SetX A0 n c0 w B0 g b9 M T Wx) (hb : Below Wx.heap.size Wx W) : SetX A0 n c0 w B0 g b9 M T W := by
  obtain ⟨cs, us, ht⟩ := h.tb
  exact ⟨⟨_, _, TB.below ht hb⟩, blk_below h.bx hb, h.ab.below hb, h.gb, h.lo⟩
theorem SetX.go {A0 : Option Addr} {n c0 : Nat} {w : World} {B0 g b9 M : Nat} {T : List S45} {W : World} (h : SetX A0 n c0 w B0 g b9 M T W) {Ad : Option Addr} {dl : List Nat} (hC : Kd.C (Kd.int .i64) W Ad dl.length (dl.map (fun (x : Nat) => (x : Int)))) (hA : ∀ ad, Ad = some ad → g ≠ ad.block) : BxL A0 n c0 w B0 g b9 M M Ad dl T W :=
  ⟨h.tb, h.bx, h.ab, dc_of_C hC, hA, h.gb, h.lo⟩
theorem SetX.start {A0 : Option Addr} {n c0 : Nat} {w w4 w5 : World} {g M j : Nat} {cs us : List Value} {T1 : List S45}
    (h : BxB A0 n c0 w w5) (ht : TB w5 w4.heap.size g cs us T1) (hM : T1.length = M) (hk : j < M) (hlo : w.heap.size + 1 + 1 ≤ w4.heap.size) (hb : Below w4.heap.size w4 w5) (ep pub : Int) :
    SetX A0 n c0 w w4.heap.size g w5.heap.size M (T1.set j { nodeN T1 j with f2 := ep, f0 := pub }) (((w5.setCell ⟨g, j * 4 + 2, none⟩ (.int .i64 ep)).setCell ⟨g, j * 4, none⟩ (.int .i64 pub)).alloc (.cells #[.slice (some ⟨g, 0, none⟩) M M] 24)) ∧
      Below w4.heap.size w4 (((w5.setCell ⟨g, j * 4 + 2, none⟩ (.int .i64 ep)).setCell ⟨g, j * 4, none⟩ (.int .i64 pub)).alloc (.cells #[.slice (some ⟨g, 0, none⟩) M M] 24)) := by
  have hgl := ht.lt
  have hgB := ht.hb
  have hx := nodeN_get (T := T1) (x := j) (by omega)
  have h1 := ht.num2 hx ep
  have h2 := h1.num0 (j := j) (x := { nodeN T1 j with f2 := ep }) (List.getElem?_set_self (by omega)) pub
  rw [List.set_set] at h2
  refine ⟨⟨⟨_, _, TB.below h2 (below_alloc (Below.refl _ _) _)⟩, ?_, ((h.set (by omega) _ _).set (by omega) _ _).below (below_alloc (Below.refl _ _) _), by omega, hlo⟩, below_alloc (Below.setCell (Below.setCell hb hgB _) hgB _) _⟩
  have := heap_alloc_new ((w5.setCell ⟨g, j * 4 + 2, none⟩ (.int .i64 ep)).setCell ⟨g, j * 4, none⟩ (.int .i64 pub)) (.cells #[.slice (some ⟨g, 0, none⟩) M M] 24)
  simpa using this
structure SetY (A0 : Option Addr) (n c0 : Nat) (w w2 : World) (B0 g b9 M : Nat) (T : List S45) (W : World) : Prop where
  tb : ∃ cs us, TB W B0 g cs us T
  bx : W.heap[b9]? = some (.cells #[.slice (some ⟨g, 0, none⟩) M M] 24 (0, 0))
  ab : BxB A0 n c0 w W
  gb : g ≠ b9
  lo : w2.heap.size ≤ B0
  ol : Below w2.heap.size w2 W
theorem SetY.c1 {A0 : Option Addr} {n c0 : Nat} {w w2 w4 w5 : World} {g M : Nat} {cs us : List Value} {T : List S45} (h : BxB A0 n c0 w w2) (hb4 : Below w2.drew.heap.size w2.drew w4) (hb5 : Below w4.heap.size w4 w5) (ht : TB w5 w4.heap.size g cs us T) :
    SetY A0 n c0 w w2 w4.heap.size g w5.heap.size M T (w5.alloc (.cells #[.slice (some ⟨g, 0, none⟩) M M] 24)) := by
  have hb4' : Below w2.heap.size w2 w4 := (below_drew (Below.refl _ _)).trans hb4
  have hb : Below w2.heap.size w2 w5 := hb4'.trans (hb5.mono hb4'.size)
  have hgl := ht.lt
  exact ⟨⟨_, _, TB.below ht (below_alloc (Below.refl _ _) _)⟩, heap_alloc_new _ _, (h.below hb).below (below_alloc (Below.refl _ _) _), by omega, hb4'.size, below_alloc hb _⟩
theorem SetY.c2 {A0 : Option Addr} {n c0 : Nat} {w w2 w4 w5 : World} {g M : Nat} {cs us : List Value} {T : List S45} (h : BxB A0 n c0 w w2) (hb4 : Below w2.drew.heap.size w2.drew w4) (hb5 : Below (w4.alloc (.cells #[.slice none 0 0] 24)).heap.size (w4.alloc (.cells #[.slice none 0 0] 24)) w5) (ht : TB w5 (w4.alloc (.cells #[.slice none 0 0] 24)).heap.size g cs us T)
    (hp : w5.heap[w4.heap.size]? = some (.cells #[.slice none 0 0] 24 (0, 0))) :
    SetY A0 n c0 w w2 (w4.alloc (.cells #[.slice none 0 0] 24)).heap.size g w4.heap.size M T (w5.setCell ⟨w4.heap.size, 0, none⟩ (.slice (some ⟨g, 0, none⟩) M M)) := by
  have hb4' : Below w2.heap.size w2 w4 := (below_drew (Below.refl _ _)).trans hb4
  have hb : Below w2.heap.size w2 w5 := (below_alloc hb4' _).trans (hb5.mono (below_alloc hb4' _).size)
  have hgB := ht.hb
  have hs := h.sz
  have h4 := hb4'.size
  have hgb : g ≠ w4.heap.size := by simp at hgB; omega
  refine ⟨⟨_, _, ht.set_other hp (by decide) hgb 0 _⟩, ?_, (h.below hb).set (by omega) _ _, hgb, by simp; omega, Below.setCell hb (by show w2.heap.size ≤ w4.heap.size; omega) _⟩
  have := blk_set hp 0 (.slice (some ⟨g, 0, none⟩) M M)
  simpa using this
theorem SetY.c3 {A0 : Option Addr} {n c0 : Nat} {w w2 w4 w5 : World} {g M : Nat} {cs us : List Value} {T : List S45} (h : BxB A0 n c0 w w2) (hb4 : Below (w2.alloc (.cells #[.slice none 0 0] 24)).drew.heap.size (w2.alloc (.cells #[.slice none 0 0] 24)).drew w4) (hb5 : Below w4.heap.size w4 w5) (ht : TB w5 w4.heap.size g cs us T)
    (hp : w5.heap[w2.heap.size]? = some (.cells #[.slice none 0 0] 24 (0, 0))) :
    SetY A0 n c0 w w2 w4.heap.size g w2.heap.size M T (w5.setCell ⟨w2.heap.size, 0, none⟩ (.slice (some ⟨g, 0, none⟩) M M)) := by
  have hb0 : Below w2.heap.size w2 (w2.alloc (.cells #[.slice none 0 0] 24)).drew := below_drew (below_alloc (Below.refl _ _) _)
  have hb4' : Below w2.heap.size w2 w4 := hb0.trans (hb4.mono hb0.size)
  have hb : Below w2.heap.size w2 w5 := hb4'.trans (hb5.mono hb4'.size)
  have hgB := ht.hb
  have hs := h.sz
  have h4 := hb4.size
  have hgb : g ≠ w2.heap.size := by simp at h4; omega
  refine ⟨⟨_, _, ht.set_other hp (by decide) hgb 0 _⟩, ?_, (h.below hb).set (by omega) _ _, hgb, hb4'.size, Below.setCell hb (Nat.le_refl _) _⟩
  have := blk_set hp 0 (.slice (some ⟨g, 0, none⟩) M M)
  simpa using this
theorem SetY.below {A0 : Option Addr} {n c0 : Nat} {w w2 : World} {B0 g b9 M : Nat} {T : List S45} {W W1 : World} (h : SetY A0 n c0 w w2 B0 g b9 M T W) (hb : Below W.heap.size W W1) : SetY A0 n c0 w w2 B0 g b9 M T W1 := by
  obtain ⟨cs, us, ht⟩ := h.tb
  exact ⟨⟨_, _, TB.below ht hb⟩, blk_below h.bx hb, h.ab.below hb, h.gb, h.lo, h.ol.trans (hb.mono h.ol.size)⟩
theorem SetY.step {A0 : Option Addr} {n c0 : Nat} {w w2 : World} {B0 g b9 M : Nat} {T : List S45} {W : World} (h : SetY A0 n c0 w w2 B0 g b9 M T W) {j : Nat} (hj : j < T.length) (hs : w.heap.size + 1 + 1 ≤ w2.heap.size) (ep pub : Int) :
    SetY A0 n c0 w w2 B0 g b9 M (T.set j { nodeN T j with f2 := ep, f0 := pub }) ((W.setCell ⟨g, j * 4 + 2, none⟩ (.int .i64 ep)).setCell ⟨g, j * 4, none⟩ (.int .i64 pub)) := by
  obtain ⟨cs, us, ht⟩ := h.tb
  have hgB := ht.hb
  have hlo := h.lo
  have hx := nodeN_get (T := T) (x := j) hj
  have h1 := ht.num2 hx ep
  have h2 := h1.num0 (j := j) (x := { nodeN T j with f2 := ep }) (List.getElem?_set_self hj) pub
  rw [List.set_set] at h2
  exact ⟨⟨_, _, h2⟩, blk_far (blk_far h.bx (show b9 ≠ g from fun e => h.gb e.symm) _) (show b9 ≠ g from fun e => h.gb e.symm) _, (h.ab.set (by omega) _ _).set (by omega) _ _, h.gb, h.lo, Below.setCell (Below.setCell h.ol (by show w2.heap.size ≤ g; omega) _) (by show w2.heap.size ≤ g; omega) _⟩
theorem SetY.go {A0 : Option Addr} {n c0 : Nat} {w w2 : World} {B0 g b9 M : Nat} {T : List S45} {W : World} (h : SetY A0 n c0 w w2 B0 g b9 M T W) (hs : w.heap.size + 1 + 1 ≤ w2.heap.size) {Ad : Option Addr} {dl : List Nat} (hC : Kd.C (Kd.int .i64) W Ad dl.length (dl.map (fun (x : Nat) => (x : Int)))) (hA : ∀ ad, Ad = some ad → g ≠ ad.block) : BxL A0 n c0 w B0 g b9 M M Ad dl T W :=
  ⟨h.tb, h.bx, h.ab, dc_of_C hC, hA, h.gb, Nat.le_trans hs h.lo⟩
theorem SetY.lt {A0 : Option Addr} {n c0 : Nat} {w w2 : World} {B0 g b9 M : Nat} {T : List S45} {W : World} (h : SetY A0 n c0 w w2 B0 g b9 M T W) : w2.heap.size ≤ g ∧ g < W.heap.size := by
  obtain ⟨cs, us, ht⟩ := h.tb
  exact ⟨Nat.le_trans h.lo ht.hb, ht.lt⟩
theorem BxL.drew {A0 : Option Addr} {n c0 : Nat} {w wr : World} {B0 g b9 L M : Nat} {Ad : Option Addr} {dl : List Nat} {T : List S45} (h : BxL A0 n c0 w B0 g b9 L M Ad dl T wr) : BxL A0 n c0 w B0 g b9 L M Ad dl T wr.drew := by
  obtain ⟨cs, us, ht⟩ := h.tb
  exact ⟨⟨_, _, TB.below ht (below_drew (Below.refl _ _))⟩, h.bx, h.ab.below (below_drew (Below.refl _ _)), h.dc, h.ga, h.gb, h.lo⟩
set_option maxRecDepth 100000 in
set_option maxHeartbeats 2000000 in
theorem set_go1 (A0 : Option Addr) (c0 : Nat) (t : List S45) (i : Nat) (ep pub : Int) (Aq : Option Addr) (cq : Nat) (qs : List Int) (w : World) (HR : Aside0 (Kd.C k45 w A0 t.length t)) (HC : Aside0 (t.length ≤ c0)) (HT : Aside0 (TabG w)) (HQ : Aside0 (Kd.C (Kd.int .i64) w Aq qs.length qs)) (CK : Aside0 (tree_Check.f t = some 0)) (h1 : 0 ≤ ep) (h2 : 1 ≤ pub) (pl : List Nat) (PT : Aside0 (tree_Path.f 10 t (i : Int) = some (pl.map (fun (x : Nat) => (x : Int)), 0))) (heq : qs.length = pl.length) (hq0 : 0 < qs.length ∧ ¬ minL qs < 1) (hq1000 : qs.length ≤ 3) (HOK : Aside0 (okB t = true)) (hi : i < lvsN t) (HPL : Aside0 (∀ x ∈ pl, x < t.length)) :
    Calls Tryd.prog 18 #[.agg #[.slice A0 t.length c0], .int .i64 (i : Int), .int .i64 ep, .int .i64 pub, .slice Aq qs.length cq] w (RemPost w (pubTo (blankL (t.set (2 * i) { nodeN t (2 * i) with f2 := ep, f0 := pub }) (dirL (lvsN t) i)) pl qs pl.length)) := by
  have hu24 := Tryd.underlying24
  have hu45 := Tryd.underlying45
  have d1 : decide (ep < 0) = false := decide_eq_false (by omega)
  have d2 : decide (pub < 1) = false := decide_eq_false (by omega)
  have hml : (pl.map (fun (x : Nat) => (x : Int))).length = pl.length := List.length_map _
  have e1 : ((qs.length : Int) == (pl.length : Int)) = true := beq_iff_eq.2 (by omega)
  have e2 : ((qs.length : Int) != (pl.length : Int)) = false := by rw [bne, e1]; rfl
  have d3 : decide (0 < (qs.length : Int)) = true := decide_eq_true (by omega)
  have d4 : decide (minL qs < 1) = false := decide_eq_false hq0.2
  have HEQ := Aside0.mk heq
  have HML := Aside0.mk hml
  have hp3 : (pl.length : Int) ≤ 3 := by omega
  clear heq hml
  obtain ⟨hn, htl⟩ := (ok_len HOK.out).resolve_left (fun h => by omega)
  have LV := Aside0.mk (leaves_at t (by omega))
  generalize hN : lvsN t = n at *
  have hn8 : (n : Int) ≤ 8 := by omega
  have HN := Aside0.mk hn
  have HTL := Aside0.mk htl
  obtain ⟨M, hM⟩ : ∃ M, M = t.length := ⟨_, rfl⟩
  have hkM : 2 * i < M := by omega
  have HMN : Aside0 (2 * n - 1 = M) := ⟨by omega⟩
  have HM2 := Aside0.mk hM
  have HUN : Aside0 (∀ x ∈ t, x.f3.length * 8 ≤ 140737488355328) := ⟨un_bound HOK.out⟩
  have hM15 : (M : Int) ≤ 15 := by omega
  have hn1 : 1 ≤ n := by omega
  have h2k : (2 * (i : Int)).toNat = 2 * i := by omega
  have HIN := Aside0.mk hi
  clear hn htl hN hM
  go_enter Tryd.func18, Tryd.ntmps18
  go_wp2_with (first | (go_at_call 10; refine (tree_Check.calls A0 c0 t _ _ (Kd.C_alloc (Kd.C_alloc HR.out _) _) HC.out ((HT.out.alloc _).alloc _) CK.out).mono ?_; rintro e w1 ⟨rfl, hb⟩; have AB := Aside0.mk (BxB.start hb); obtain ⟨x0, x1, x2⟩ := AB.out.cells; clear hb) | (go_at_call 17; refine (tree_Path.calls 10 A0 c0 t _ _ _ _ (Kd.C_below HR.out AB.out.bel) HC.out (TabG.below HT.out AB.out.bel) PT.out).mono ?_; rintro e w2 ⟨v2, rfl, ho, hb⟩; obtain ⟨A2, c2, rfl⟩ := Kd.R_slice ho; simp only [HML.out]; have HPB : Aside0 (∀ ad, A2 = some ad → ad.block < w2.heap.size) := ⟨fun ad e => Kd.R_lt ho ad.block (by rw [e]; rfl)⟩; have HPC : Aside0 (Kd.C (Kd.int .i64) w2 A2 pl.length (pl.map (fun (x : Nat) => (x : Int)))) := ⟨by have h := (Kd.R_reads' ho).2.2; rw [HML.out] at h; exact h⟩; have AB2 := Aside0.mk (AB.out.below hb); clear x0 x1 x2; obtain ⟨x0, x1, x2⟩ := AB2.out.cells; clear hb ho) | (go_at_call 36; refine (min_go Aq cq qs _ ⟨Kd.C_below HQ.out AB2.out.bel⟩ (by omega) (by omega)).mono ?_; rintro e w3 ⟨rfl, rfl⟩))
  have xw := World.new_ne w2 _ x0
  have HS2 := Aside0.mk AB2.out.sz
  have n2 : ¬ (w.heap.size = w2.heap.size) := by have := HS2.out; omega
  have m2 : ¬ (w2.heap.size = w.heap.size) := by have := HS2.out; omega
  go_cut [14] (fun s14 wx => ∃ B0 b9 g : Nat, s14 = .pointer (some ⟨b9, 0, none⟩) ∧ Aside0 (SetY A0 t.length c0 w w2 B0 g b9 M t wx))
  case first =>
    go_region_held3 (fun w' => w'.cell? ⟨w.heap.size, 0, none⟩ = some (.slice A0 t.length c0)) (go_keep) (first | (go_at_call 26; refine (tree_leaves.calls A0 c0 t _ _ ?lR HC.out LV.out).mono ?_; (case lR => first | exact Kd.C_drew (Kd.C_below HR.out AB2.out.bel) | exact Kd.C_alloc (Kd.C_drew (Kd.C_below HR.out AB2.out.bel)) _); rintro e w4 ⟨rfl, hb⟩; have b4 : w4.cell? ⟨w.heap.size, 0, none⟩ = some (.slice A0 t.length c0) := (by first | exact pw_cell_below hb (show w2.drew.cell? _ = _ from x0) | exact pw_cell_below hb (cell_alloc (show w2.drew.cell? _ = _ from x0) _)); have r4 : Kd.C k45 w4 A0 t.length t := (by first | exact Kd.C_below (Kd.C_drew (Kd.C_below HR.out AB2.out.bel)) hb | exact Kd.C_below (Kd.C_alloc (Kd.C_drew (Kd.C_below HR.out AB2.out.bel)) _) hb); have HR4 := Aside0.mk r4; clear r4; have z4 := hb.size; have n4 : ¬ (w.heap.size = w4.heap.size) := (by have := HS2.out; simp at z4; omega); have m4 : ¬ (w4.heap.size = w.heap.size) := (fun e => n4 e.symm); clear z4; (first | (have q4 := blk_below (w := (w2.alloc (.cells #[.slice none 0 0] 24)).drew) (g := w2.heap.size) (heap_alloc_new w2 _) hb; have HQ4 := Aside0.mk q4; have q4c := blk_cell q4 0; have q4f := blk_frozen q4 0; clear q4) | skip); have HB4 := Aside0.mk hb; clear hb) | (go_at_call 30; refine (twin_any A0 c0 t _ M _ ⟨?tR⟩ ⟨?tM⟩ ?t1 ?t2 ⟨?tL⟩ ⟨HUN.out⟩).mono ?_; (case tR => first | exact HR4.out | exact Kd.C_alloc HR4.out _); (case tM => have := HMN.out; omega); (case t1 => omega); (case t2 => omega); (case tL => have := HM2.out; omega); rintro e w5 ⟨g, cs, us, rfl, hTB, hb⟩; rw [HM2.out, Nat.sub_self, List.replicate_zero, List.append_nil] at hTB; have b5 : w5.cell? ⟨w.heap.size, 0, none⟩ = some (.slice A0 t.length c0) := (by first | exact pw_cell_below hb b4 | exact pw_cell_below hb (cell_alloc b4 _)); have z5 := hb.size; have n5 : ¬ (w.heap.size = w5.heap.size) := (by have := HS2.out; have := HB4.out.size; simp at this z5; omega); have m5 : ¬ (w5.heap.size = w.heap.size) := (fun e => n5 e.symm); clear z5; (first | (have q5 := blk_below HQ4.out hb; have HQ5 := Aside0.mk q5; have q5c := blk_cell q5 0; have q5f := blk_frozen q5 0; clear q5) | skip); (first | (have p5 := blk_below (w := w4.alloc (.cells #[.slice none 0 0] 24)) (g := w4.heap.size) (heap_alloc_new w4 _) hb; have HP5 := Aside0.mk p5; have p5c := blk_cell p5 0; have p5f := blk_frozen p5 0; clear p5) | skip); have HB5 := Aside0.mk hb; have HTB5 := Aside0.mk hTB; clear hb hTB))
    all_goals (go_wp2_with fail; go_meet; first | exact ⟨_, _, _, rfl, ⟨SetY.c1 AB2.out HB4.out HB5.out HTB5.out⟩⟩ | exact ⟨_, _, _, rfl, ⟨SetY.c2 AB2.out HB4.out HB5.out HTB5.out HP5.out⟩⟩ | exact ⟨_, _, _, rfl, ⟨SetY.c3 AB2.out HB4.out HB5.out HTB5.out HQ5.out⟩⟩)
  case rest =>
    obtain ⟨B0, b9, g, rfl, HY⟩ := hcut
    obtain ⟨cs0, us0, htb0⟩ := HY.out.tb
    obtain ⟨u0, hu0, z0, z1, z2, z3, -⟩ := htb0.cells (2 * i) (by have := HM2.out; omega)
    have f0 := blk_frozen htb0.blk (2 * i * 4)
    have f2 := blk_frozen htb0.blk (2 * i * 4 + 2)
    have hbx := blk_cell HY.out.bx 0
    have HGB := Aside0.mk HY.out.gb
    clear x0 x1 x2
    obtain ⟨x0, x1, x2⟩ := HY.out.ab.cells
    have nb1 : ¬ (b9 = g) := fun e => HGB.out e.symm
    have nb2 : ¬ (g = b9) := HGB.out
    have HG2 := Aside0.mk HY.out.lt
    have nb3 : ¬ (w.heap.size = g) := by have := HG2.out; have := HS2.out; omega
    have nb4 : ¬ (g = w.heap.size) := fun e => nb3 e.symm
    have HX := Aside0.mk (HY.out.step (j := 2 * i) (by have := HM2.out; omega) HS2.out ep pub)
    clear htb0 hu0 z1 z3
    go_wp2_with (first | (go_at_call 26; refine (tree_leaves.calls A0 c0 t _ _ (Kd.C_below HR.out HX.out.ab.bel) HC.out LV.out).mono ?_; rintro e w7 ⟨rfl, hb⟩; have HY7 := Aside0.mk (HX.out.below hb); have s7 := HY7.out.lt; have HS7 := Aside0.mk s7; clear hb s7) | (go_at_call 31; refine (direct_new n i HN.out HIN.out _ ⟨TabG.below HT.out HY7.out.ab.bel⟩).mono ?_; rintro e w8 ⟨Ad, cd, rfl, hcd, hC, hAb, hb⟩; have HY8 := Aside0.mk (HY7.out.below hb); have HL1 := Aside0.mk (HY8.out.go HS2.out hC (fun ad e => by have := (hAb ad e).1; have := HS7.out; omega)); have HL2 := Aside0.mk (HY8.out.go HS2.out (Kd.C_below HPC.out HY8.out.ol) (fun ad e => by have := HPB.out ad e; have := HS7.out; omega)); have HCD := Aside0.mk hcd; clear hC hAb hb hcd))
    have hdl3 := dirL_len n i
    have HDB : Aside0 (∀ q, q < (dirL n i).length → (dirL n i).getD q 0 < M) := ⟨fun q hq => by have := (cop_at n i HN.out HIN.out).2.2.2 ((dirL n i).getD q 0) (by rw [List.getD_eq_getElem?_getD, List.getElem?_eq_getElem hq]; exact List.getElem_mem _); have := HMN.out; omega⟩
    have HPLB : Aside0 (∀ q, q < pl.length → pl.getD q 0 < M) := ⟨fun q hq => by have := HPL.out (pl.getD q 0) (by rw [List.getD_eq_getElem?_getD, List.getElem?_eq_getElem hq]; exact List.getElem_mem _); have := HM2.out; omega⟩
    generalize hdl : dirL n i = dl at *
    have HDL := Aside0.mk hdl
    generalize hT0 : t.set (2 * i) { nodeN t (2 * i) with f2 := ep, f0 := pub } = T0 at HL1 HL2
    have HT0 := Aside0.mk hT0
    have HT0L : Aside0 (T0.length = M) := ⟨by rw [← hT0, List.length_set]; exact HM2.out.symm⟩
    clear hdl hT0 x0 x1 x2 z0 z2 f0 f2 hbx HX nb3 nb4
    have hm3 : (dl.length : Int) ≤ 3 := by omega
    go_loopw [81] (fun v81 wr => ∃ j : Nat, j ≤ dl.length ∧ v81 = .int .i64 j ∧ Aside0 (BxL A0 t.length c0 w B0 g b9 M M Ad dl (blankL T0 (dl.take j)) wr) ∧ Aside0 (BxL A0 t.length c0 w B0 g b9 M M A2 pl (blankL T0 (dl.take j)) wr)) (fun v81 _ => dl.length - (intOf v81).toNat)
    case atStart => exact ⟨0, Nat.zero_le _, rfl, HL1, HL2⟩
    case round =>
      clear HL1 HL2
      obtain ⟨j, hj, rfl, HL1, HL2⟩ := hrel
      obtain ⟨cs2, us2, htb⟩ := HL1.out.tb
      have hT : (blankL T0 (dl.take j)).length = M := by rw [blankL_len]; exact HT0L.out
      by_cases hlt2 : j < dl.length
      · obtain ⟨ad2, rfl, hdc⟩ := HL1.out.dc j hlt2
        have hxM := HDB.out j hlt2
        have HNT : Aside0 (blankL T0 (dl.take (j + 1)) = (blankL T0 (dl.take j)).set (dl.getD j 0) z45) := ⟨blankL_take hlt2⟩
        generalize hx : dl.getD j 0 = x at *
        generalize hTT : blankL T0 (dl.take j) = T at *
        obtain ⟨u, hu, z0, z1, z2, z3, -⟩ := htb.cells x (by omega)
        have hbx := blk_cell HL1.out.bx 0
        have f0 := blk_frozen htb.blk (x * 4)
        have f1 := blk_frozen htb.blk (x * 4 + 1)
        have f2 := blk_frozen htb.blk (x * 4 + 2)
        have f3 := blk_frozen htb.blk (x * 4 + 3)
        have HXT := Aside0.mk (show x < T.length by omega)
        have hxl : (x : Int) < (M : Int) := by omega
        clear htb hu hx hTT hT
        go_wp2
        go_roundw
        case rel => exact ⟨j + 1, by omega, by go_num, ⟨by rw [HNT.out]; exact HL1.out.node HXT.out z45 rfl⟩, ⟨by rw [HNT.out]; exact HL2.out.node HXT.out z45 rfl⟩⟩
        case measure => simp [intOf]; omega
      · obtain rfl : j = dl.length := by omega
        rw [List.take_length] at HL2 hT
        have HCTL : Aside0 ((blankL T0 dl).length = M) := ⟨hT⟩
        have HCT : Aside0 (blankL T0 dl = blankL (t.set (2 * i) { nodeN t (2 * i) with f2 := ep, f0 := pub }) dl) := ⟨by rw [HT0.out]⟩
        generalize blankL T0 dl = T1 at *
        clear HL1 htb hT
        go_wp2
        go_loopw [93] (fun v93 wr => ∃ j : Nat, j ≤ pl.length ∧ v93 = .int .i64 j ∧ Aside0 (BxL A0 t.length c0 w B0 g b9 M M A2 pl (pubTo T1 pl qs j) wr)) (fun v93 _ => pl.length - (intOf v93).toNat)
        case atStart => exact ⟨0, Nat.zero_le _, rfl, HL2⟩
        case round =>
          clear HL2
          obtain ⟨j, hj, rfl, HL2⟩ := hrel
          obtain ⟨cs2, us2, htb⟩ := HL2.out.tb
          have hT : (pubTo T1 pl qs j).length = M := by rw [pubTo_len]; exact HCTL.out
          have hbx := blk_cell HL2.out.bx 0
          by_cases hlt3 : j < pl.length
          · obtain ⟨ad2, rfl, hdc⟩ := HL2.out.dc j hlt3
            obtain ⟨aq, rfl, hqc⟩ := Kd.at_int (Kd.C_below HQ.out HL2.out.ab.bel) (j : Int) (by omega) (by have := HEQ.out; omega)
            rw [Int.toNat_natCast] at hqc
            have hrq : rd qs (j : Int) = qs.getD j 0 := by unfold rd; simp
            rw [hrq] at hqc
            have hxM := HPLB.out j hlt3
            have HNT : Aside0 (pubTo T1 pl qs (j + 1) = (pubTo T1 pl qs j).set (pl.getD j 0) { nodeN (pubTo T1 pl qs j) (pl.getD j 0) with f0 := qs.getD j 0 }) := ⟨rfl⟩
            generalize hx : pl.getD j 0 = x at *
            generalize hTT : pubTo T1 pl qs j = T at *
            generalize hqq : qs.getD j 0 = qv at *
            obtain ⟨u, hu, z0, z1, z2, z3, -⟩ := htb.cells x (by omega)
            have f0 := blk_frozen htb.blk (x * 4)
            have HXT := Aside0.mk (nodeN_get (T := T) (x := x) (by omega))
            have hxl : (x : Int) < (M : Int) := by omega
            have hjq : (j : Int) < (qs.length : Int) := by have := HEQ.out; omega
            clear htb hu hx hTT hT hqq hrq z1 z2 z3
            go_wp2
            go_region
            go_wp2
            go_roundw
            case rel => exact ⟨j + 1, by omega, by go_num, ⟨by rw [HNT.out]; exact (HL2.out.num0 HXT.out qv).drew⟩⟩
            case measure => simp [intOf]; omega
          · obtain rfl : j = pl.length := by omega
            obtain ⟨x0, x1, x2⟩ := HL2.out.ab.cells
            have HTB2 := Aside0.mk htb
            have HT2 := Aside0.mk hT
            clear htb hT
            go_wp2
            have hq := (HL2.out.ab.res (.slice (some ⟨g, 0, none⟩) M M)).1
            have hgw : g ≠ w.heap.size + 1 := by have := HTB2.out.hb; have := HL2.out.lo; omega
            refine bodyPost_ret (v := .tuple #[.agg #[.slice (some ⟨g, 0, none⟩) M M], .int .i64 0]) (by simp [results, Tryd.results18, go_sem, hq]) rfl ⟨_, rfl, ?_, (HL2.out.ab.res _).2⟩
            have hfin := (HTB2.out.set_other HL2.out.ab.b2 (by decide) hgw 0 (.slice (some ⟨g, 0, none⟩) M M)).S (by rw [HT2.out]; omega)
            rw [HT2.out] at hfin
            have := Kd.S_lower hfin (show w.heap.size ≤ B0 by have := HL2.out.lo; omega)
            rw [← HCT.out]
            exact this
set_option maxRecDepth 100000 in
set_option maxHeartbeats 2000000 in
theorem set_go0 (A0 : Option Addr) (c0 : Nat) (t : List S45) (i : Nat) (ep pub : Int) (Aq : Option Addr) (cq : Nat) (qs : List Int) (w : World) (HR : Aside0 (Kd.C k45 w A0 t.length t)) (HC : Aside0 (t.length ≤ c0)) (HT : Aside0 (TabG w)) (HQ : Aside0 (Kd.C (Kd.int .i64) w Aq qs.length qs)) (CK : Aside0 (tree_Check.f t = some 0)) (h1 : 0 ≤ ep) (h2 : 1 ≤ pub) (pl : List Nat) (PT : Aside0 (tree_Path.f 10 t (i : Int) = some (pl.map (fun (x : Nat) => (x : Int)), 0))) (hp0 : pl = []) (hq0 : qs = []) (HOK : Aside0 (okB t = true)) (hi : i < lvsN t) (HPL : Aside0 (∀ x ∈ pl, x < t.length)) :
    Calls Tryd.prog 18 #[.agg #[.slice A0 t.length c0], .int .i64 (i : Int), .int .i64 ep, .int .i64 pub, .slice Aq qs.length cq] w (RemPost w (pubTo (blankL (t.set (2 * i) { nodeN t (2 * i) with f2 := ep, f0 := pub }) (dirL (lvsN t) i)) pl qs pl.length)) := by
  have hu24 := Tryd.underlying24
  have hu45 := Tryd.underlying45
  have d1 : decide (ep < 0) = false := decide_eq_false (by omega)
  have d2 : decide (pub < 1) = false := decide_eq_false (by omega)
  subst hp0 hq0
  have HML : Aside0 ((([] : List Nat).map (fun (x : Nat) => (x : Int))).length = 0) := ⟨rfl⟩
  have HEQ : Aside0 (([] : List Int).length = ([] : List Nat).length) := ⟨rfl⟩
  obtain ⟨hn, htl⟩ := (ok_len HOK.out).resolve_left (fun h => by omega)
  have LV := Aside0.mk (leaves_at t (by omega))
  generalize hN : lvsN t = n at *
  have hn8 : (n : Int) ≤ 8 := by omega
  have HN := Aside0.mk hn
  have HTL := Aside0.mk htl
  obtain ⟨M, hM⟩ : ∃ M, M = t.length := ⟨_, rfl⟩
  have hkM : 2 * i < M := by omega
  have HMN : Aside0 (2 * n - 1 = M) := ⟨by omega⟩
  have HM2 := Aside0.mk hM
  have HUN : Aside0 (∀ x ∈ t, x.f3.length * 8 ≤ 140737488355328) := ⟨un_bound HOK.out⟩
  have hM15 : (M : Int) ≤ 15 := by omega
  have hn1 : 1 ≤ n := by omega
  have h2k : (2 * (i : Int)).toNat = 2 * i := by omega
  have HIN := Aside0.mk hi
  clear hn htl hN hM
  go_enter Tryd.func18, Tryd.ntmps18
  go_wp2_with (first | (go_at_call 10; refine (tree_Check.calls A0 c0 t _ _ (Kd.C_alloc (Kd.C_alloc HR.out _) _) HC.out ((HT.out.alloc _).alloc _) CK.out).mono ?_; rintro e w1 ⟨rfl, hb⟩; have AB := Aside0.mk (BxB.start hb); obtain ⟨x0, x1, x2⟩ := AB.out.cells; clear hb) | (go_at_call 17; refine (tree_Path.calls 10 A0 c0 t _ _ _ _ (Kd.C_below HR.out AB.out.bel) HC.out (TabG.below HT.out AB.out.bel) PT.out).mono ?_; rintro e w2 ⟨v2, rfl, ho, hb⟩; obtain ⟨A2, c2, rfl⟩ := Kd.R_slice ho; simp only [HML.out]; have HPB : Aside0 (∀ ad, A2 = some ad → ad.block < w2.heap.size) := ⟨fun ad e => Kd.R_lt ho ad.block (by rw [e]; rfl)⟩; have HPC : Aside0 (Kd.C (Kd.int .i64) w2 A2 ([] : List Nat).length (([] : List Nat).map (fun (x : Nat) => (x : Int)))) := ⟨by have h := (Kd.R_reads' ho).2.2; exact h⟩; have AB2 := Aside0.mk (AB.out.below hb); clear x0 x1 x2; obtain ⟨x0, x1, x2⟩ := AB2.out.cells; clear hb ho) | (go_at_call 36; refine (min_go Aq cq qs _ ⟨Kd.C_below HQ.out AB2.out.bel⟩ (by omega) (by omega)).mono ?_; rintro e w3 ⟨rfl, rfl⟩))
  have xw := World.new_ne w2 _ x0
  have HS2 := Aside0.mk AB2.out.sz
  have n2 : ¬ (w.heap.size = w2.heap.size) := by have := HS2.out; omega
  have m2 : ¬ (w2.heap.size = w.heap.size) := by have := HS2.out; omega
  go_cut [14] (fun s14 wx => ∃ B0 b9 g : Nat, s14 = .pointer (some ⟨b9, 0, none⟩) ∧ Aside0 (SetY A0 t.length c0 w w2 B0 g b9 M t wx))
  case first =>
    go_region_held3 (fun w' => w'.cell? ⟨w.heap.size, 0, none⟩ = some (.slice A0 t.length c0)) (go_keep) (first | (go_at_call 26; refine (tree_leaves.calls A0 c0 t _ _ ?lR HC.out LV.out).mono ?_; (case lR => first | exact Kd.C_drew (Kd.C_below HR.out AB2.out.bel) | exact Kd.C_alloc (Kd.C_drew (Kd.C_below HR.out AB2.out.bel)) _); rintro e w4 ⟨rfl, hb⟩; have b4 : w4.cell? ⟨w.heap.size, 0, none⟩ = some (.slice A0 t.length c0) := (by first | exact pw_cell_below hb (show w2.drew.cell? _ = _ from x0) | exact pw_cell_below hb (cell_alloc (show w2.drew.cell? _ = _ from x0) _)); have r4 : Kd.C k45 w4 A0 t.length t := (by first | exact Kd.C_below (Kd.C_drew (Kd.C_below HR.out AB2.out.bel)) hb | exact Kd.C_below (Kd.C_alloc (Kd.C_drew (Kd.C_below HR.out AB2.out.bel)) _) hb); have HR4 := Aside0.mk r4; clear r4; have z4 := hb.size; have n4 : ¬ (w.heap.size = w4.heap.size) := (by have := HS2.out; simp at z4; omega); have m4 : ¬ (w4.heap.size = w.heap.size) := (fun e => n4 e.symm); clear z4; (first | (have q4 := blk_below (w := (w2.alloc (.cells #[.slice none 0 0] 24)).drew) (g := w2.heap.size) (heap_alloc_new w2 _) hb; have HQ4 := Aside0.mk q4; have q4c := blk_cell q4 0; have q4f := blk_frozen q4 0; clear q4) | skip); have HB4 := Aside0.mk hb; clear hb) | (go_at_call 30; refine (twin_any A0 c0 t _ M _ ⟨?tR⟩ ⟨?tM⟩ ?t1 ?t2 ⟨?tL⟩ ⟨HUN.out⟩).mono ?_; (case tR => first | exact HR4.out | exact Kd.C_alloc HR4.out _); (case tM => have := HMN.out; omega); (case t1 => omega); (case t2 => omega); (case tL => have := HM2.out; omega); rintro e w5 ⟨g, cs, us, rfl, hTB, hb⟩; rw [HM2.out, Nat.sub_self, List.replicate_zero, List.append_nil] at hTB; have b5 : w5.cell? ⟨w.heap.size, 0, none⟩ = some (.slice A0 t.length c0) := (by first | exact pw_cell_below hb b4 | exact pw_cell_below hb (cell_alloc b4 _)); have z5 := hb.size; have n5 : ¬ (w.heap.size = w5.heap.size) := (by have := HS2.out; have := HB4.out.size; simp at this z5; omega); have m5 : ¬ (w5.heap.size = w.heap.size) := (fun e => n5 e.symm); clear z5; (first | (have q5 := blk_below HQ4.out hb; have HQ5 := Aside0.mk q5; have q5c := blk_cell q5 0; have q5f := blk_frozen q5 0; clear q5) | skip); (first | (have p5 := blk_below (w := w4.alloc (.cells #[.slice none 0 0] 24)) (g := w4.heap.size) (heap_alloc_new w4 _) hb; have HP5 := Aside0.mk p5; have p5c := blk_cell p5 0; have p5f := blk_frozen p5 0; clear p5) | skip); have HB5 := Aside0.mk hb; have HTB5 := Aside0.mk hTB; clear hb hTB))
    all_goals (go_wp2_with fail; go_meet; first | exact ⟨_, _, _, rfl, ⟨SetY.c1 AB2.out HB4.out HB5.out HTB5.out⟩⟩ | exact ⟨_, _, _, rfl, ⟨SetY.c2 AB2.out HB4.out HB5.out HTB5.out HP5.out⟩⟩ | exact ⟨_, _, _, rfl, ⟨SetY.c3 AB2.out HB4.out HB5.out HTB5.out HQ5.out⟩⟩)
  case rest =>
    obtain ⟨B0, b9, g, rfl, HY⟩ := hcut
    obtain ⟨cs0, us0, htb0⟩ := HY.out.tb
    obtain ⟨u0, hu0, z0, z1, z2, z3, -⟩ := htb0.cells (2 * i) (by have := HM2.out; omega)
    have f0 := blk_frozen htb0.blk (2 * i * 4)
    have f2 := blk_frozen htb0.blk (2 * i * 4 + 2)
    have hbx := blk_cell HY.out.bx 0
    have HGB := Aside0.mk HY.out.gb
    clear x0 x1 x2
    obtain ⟨x0, x1, x2⟩ := HY.out.ab.cells
    have nb1 : ¬ (b9 = g) := fun e => HGB.out e.symm
    have nb2 : ¬ (g = b9) := HGB.out
    have HG2 := Aside0.mk HY.out.lt
    have nb3 : ¬ (w.heap.size = g) := by have := HG2.out; have := HS2.out; omega
    have nb4 : ¬ (g = w.heap.size) := fun e => nb3 e.symm
    have HX := Aside0.mk (HY.out.step (j := 2 * i) (by have := HM2.out; omega) HS2.out ep pub)
    clear htb0 hu0 z1 z3
    go_wp2_with (first | (go_at_call 26; refine (tree_leaves.calls A0 c0 t _ _ (Kd.C_below HR.out HX.out.ab.bel) HC.out LV.out).mono ?_; rintro e w7 ⟨rfl, hb⟩; have HY7 := Aside0.mk (HX.out.below hb); have s7 := HY7.out.lt; have HS7 := Aside0.mk s7; clear hb s7) | (go_at_call 31; refine (direct_new n i HN.out HIN.out _ ⟨TabG.below HT.out HY7.out.ab.bel⟩).mono ?_; rintro e w8 ⟨Ad, cd, rfl, hcd, hC, hAb, hb⟩; have HY8 := Aside0.mk (HY7.out.below hb); have HL1 := Aside0.mk (HY8.out.go HS2.out hC (fun ad e => by have := (hAb ad e).1; have := HS7.out; omega)); have HL2 := Aside0.mk (HY8.out.go HS2.out (Kd.C_below HPC.out HY8.out.ol) (fun ad e => by have := HPB.out ad e; have := HS7.out; omega)); have HCD := Aside0.mk hcd; clear hC hAb hb hcd))
    have hdl3 := dirL_len n i
    have HDB : Aside0 (∀ q, q < (dirL n i).length → (dirL n i).getD q 0 < M) := ⟨fun q hq => by have := (cop_at n i HN.out HIN.out).2.2.2 ((dirL n i).getD q 0) (by rw [List.getD_eq_getElem?_getD, List.getElem?_eq_getElem hq]; exact List.getElem_mem _); have := HMN.out; omega⟩
    have HPLB : Aside0 (∀ q, q < ([] : List Nat).length → ([] : List Nat).getD q 0 < M) := ⟨fun q hq => by have := HPL.out (([] : List Nat).getD q 0) (by rw [List.getD_eq_getElem?_getD, List.getElem?_eq_getElem hq]; exact List.getElem_mem _); have := HM2.out; omega⟩
    generalize hdl : dirL n i = dl at *
    have HDL := Aside0.mk hdl
    generalize hT0 : t.set (2 * i) { nodeN t (2 * i) with f2 := ep, f0 := pub } = T0 at HL1 HL2
    have HT0 := Aside0.mk hT0
    have HT0L : Aside0 (T0.length = M) := ⟨by rw [← hT0, List.length_set]; exact HM2.out.symm⟩
    clear hdl hT0 x0 x1 x2 z0 z2 f0 f2 hbx HX nb3 nb4
    have hm3 : (dl.length : Int) ≤ 3 := by omega
    go_loopw [81] (fun v81 wr => ∃ j : Nat, j ≤ dl.length ∧ v81 = .int .i64 j ∧ Aside0 (BxL A0 t.length c0 w B0 g b9 M M Ad dl (blankL T0 (dl.take j)) wr) ∧ Aside0 (BxL A0 t.length c0 w B0 g b9 M M A2 [] (blankL T0 (dl.take j)) wr)) (fun v81 _ => dl.length - (intOf v81).toNat)
    case atStart => exact ⟨0, Nat.zero_le _, rfl, HL1, HL2⟩
    case round =>
      clear HL1 HL2
      obtain ⟨j, hj, rfl, HL1, HL2⟩ := hrel
      obtain ⟨cs2, us2, htb⟩ := HL1.out.tb
      have hT : (blankL T0 (dl.take j)).length = M := by rw [blankL_len]; exact HT0L.out
      by_cases hlt2 : j < dl.length
      · obtain ⟨ad2, rfl, hdc⟩ := HL1.out.dc j hlt2
        have hxM := HDB.out j hlt2
        have HNT : Aside0 (blankL T0 (dl.take (j + 1)) = (blankL T0 (dl.take j)).set (dl.getD j 0) z45) := ⟨blankL_take hlt2⟩
        generalize hx : dl.getD j 0 = x at *
        generalize hTT : blankL T0 (dl.take j) = T at *
        obtain ⟨u, hu, z0, z1, z2, z3, -⟩ := htb.cells x (by omega)
        have hbx := blk_cell HL1.out.bx 0
        have f0 := blk_frozen htb.blk (x * 4)
        have f1 := blk_frozen htb.blk (x * 4 + 1)
        have f2 := blk_frozen htb.blk (x * 4 + 2)
        have f3 := blk_frozen htb.blk (x * 4 + 3)
        have HXT := Aside0.mk (show x < T.length by omega)
        have hxl : (x : Int) < (M : Int) := by omega
        clear htb hu hx hTT hT
        go_wp2
        go_roundw
        case rel => exact ⟨j + 1, by omega, by go_num, ⟨by rw [HNT.out]; exact HL1.out.node HXT.out z45 rfl⟩, ⟨by rw [HNT.out]; exact HL2.out.node HXT.out z45 rfl⟩⟩
        case measure => simp [intOf]; omega
      · obtain rfl : j = dl.length := by omega
        rw [List.take_length] at HL2 hT
        have HCTL : Aside0 ((blankL T0 dl).length = M) := ⟨hT⟩
        have HCT : Aside0 (blankL T0 dl = blankL (t.set (2 * i) { nodeN t (2 * i) with f2 := ep, f0 := pub }) dl) := ⟨by rw [HT0.out]⟩
        generalize blankL T0 dl = T1 at *
        clear HL1 htb hT
        go_wp2
        go_loopw [93] (fun v93 wr => ∃ j : Nat, j ≤ ([] : List Nat).length ∧ v93 = .int .i64 j ∧ Aside0 (BxL A0 t.length c0 w B0 g b9 M M A2 [] (pubTo T1 [] [] j) wr)) (fun v93 _ => ([] : List Nat).length - (intOf v93).toNat)
        case atStart => exact ⟨0, Nat.zero_le _, rfl, HL2⟩
        case round =>
          clear HL2
          obtain ⟨j, hj, rfl, HL2⟩ := hrel
          obtain ⟨cs2, us2, htb⟩ := HL2.out.tb
          have hT : (pubTo T1 [] [] j).length = M := by rw [pubTo_len]; exact HCTL.out
          have hbx := blk_cell HL2.out.bx 0
          obtain rfl : j = 0 := by simpa using hj
          obtain ⟨x0, x1, x2⟩ := HL2.out.ab.cells
          have HTB2 := Aside0.mk htb
          have HT2 := Aside0.mk hT
          clear htb hT
          go_wp2
          have hq := (HL2.out.ab.res (.slice (some ⟨g, 0, none⟩) M M)).1
          have hgw : g ≠ w.heap.size + 1 := by have := HTB2.out.hb; have := HL2.out.lo; omega
          refine bodyPost_ret (v := .tuple #[.agg #[.slice (some ⟨g, 0, none⟩) M M], .int .i64 0]) (by simp [results, Tryd.results18, go_sem, hq]) rfl ⟨_, rfl, ?_, (HL2.out.ab.res _).2⟩
          have hfin := (HTB2.out.set_other HL2.out.ab.b2 (by decide) hgw 0 (.slice (some ⟨g, 0, none⟩) M M)).S (by rw [HT2.out]; omega)
          rw [HT2.out] at hfin
          have := Kd.S_lower hfin (show w.heap.size ≤ B0 by have := HL2.out.lo; omega)
          rw [← HCT.out]
          exact this
def tree_SetPath.f (t : List S45) (leaf ep pub : Int) (qs : List Int) : Option (List S45 × Int) :=
  if t.all (fun n => wfI n.f1) = true ∧ qs.length ≤ 1000 then
    some (if okB t = true ∧ 0 ≤ ep ∧ 1 ≤ pub then
      (if 0 ≤ leaf ∧ leaf < lvsN t ∧ (nodeN t (2 * leaf).toNat).f0 ≠ 0 then
        (if qs.length = (pathN t leaf.toNat).length ∧ ∀ q ∈ qs, 1 ≤ q then (setT t leaf.toNat ep pub qs, 0) else ([], 1))
       else ([], 7))
      else ([], 1))
  else none
theorem tree_SetPath.calls (A0_0 : Option Addr) (c0_0 : Nat) (l0_0 : List (S45)) (a1 : Int) (a2 : Int) (a3 : Int) (A4 : Option Addr) (c4 : Nat) (l4 : List Int) (r1 : List (S45)) (r2 : Int) (w : World) (hr0_0 : Kd.C k45 w A0_0 l0_0.length l0_0) (hc0_0 : l0_0.length ≤ c0_0) (hr4 : Kd.C (Kd.int .i64) w A4 l4.length l4) (hc4 : l4.length ≤ c4) (hT : TabG w) (h : tree_SetPath.f l0_0 a1 a2 a3 l4 = some (r1, r2)) :
    Calls Tryd.prog 18 #[.agg #[.slice A0_0 l0_0.length c0_0], .int .i64 a1, .int .i64 a2, .int .i64 a3, .slice A4 l4.length c4] w fun e w' => ∃ v0_ : Value, e = .returned (.tuple #[.agg #[v0_], .int .i64 r2]) ∧ Kd.S k45 45 w' w.heap.size (fun _ => True) v0_ r1 ∧ Below w.heap.size w w' := by
  unfold tree_SetPath.f at h
  by_cases hg : l0_0.all (fun n => wfI n.f1) = true ∧ l4.length ≤ 1000
  · rw [if_pos hg] at h
    obtain ⟨hw, hq⟩ := hg
    have hck : tree_Check.f l0_0 = some (if okB l0_0 = true then 0 else 1) := if_pos hw
    have h := Option.some.inj h
    have err : ∀ (x : Int) (e : Ending) (w' : World), RemErr w x e w' → ([], x) = (r1, r2) → ∃ v0_ : Value, e = .returned (.tuple #[.agg #[v0_], .int .i64 r2]) ∧ Kd.S k45 45 w' w.heap.size (fun _ => True) v0_ r1 ∧ Below w.heap.size w w' := by
      intro x e w' he hx
      injection hx with e1 e2
      subst e1 e2
      exact rem_err he
    by_cases hok : okB l0_0 = true
    · rw [if_pos hok] at hck
      by_cases h1 : 0 ≤ a2
      · by_cases h2 : 1 ≤ a3
        · rw [if_pos ⟨hok, h1, h2⟩] at h
          by_cases hl : 0 ≤ a1 ∧ a1 < lvsN l0_0 ∧ (nodeN l0_0 (2 * a1).toNat).f0 ≠ 0
          · rw [if_pos hl] at h
            obtain ⟨hl0, hl1, hl2⟩ := hl
            obtain ⟨i, rfl⟩ : ∃ i : Nat, a1 = (i : Int) := ⟨a1.toNat, by omega⟩
            rw [Int.toNat_natCast] at h
            have hrows : tree_rows.f l0_0 (i : Int) = some (rowsT l0_0 i, 0) := by
              unfold tree_rows.f
              rw [if_pos hw, if_pos hok, if_pos ⟨hl0, hl1, hl2⟩, Int.toNat_natCast]
            have hpath := path_at hrows
            have hpp : (rowsT l0_0 i).map S71.f0 = (pathN l0_0 i).map (fun (x : Nat) => (x : Int)) := rows_path _ _ _ _
            rw [hpp] at hpath
            have hpl := pathTo_len l0_0 (lvsN l0_0) i (dirL (lvsN l0_0) i).length
            have hd3 := dirL_len (lvsN l0_0) i
            have hpl3 : (pathN l0_0 i).length ≤ 3 := by unfold pathN; omega
            have hne : l0_0 ≠ [] := by intro e; subst e; simp [lvsN] at hl1; omega
            have hml : ((pathN l0_0 i).map (fun (x : Nat) => (x : Int))).length = (pathN l0_0 i).length := List.length_map _
            by_cases hlen : l4.length = (pathN l0_0 i).length
            · by_cases hall : ∀ q ∈ l4, 1 ≤ q
              · rw [if_pos ⟨hlen, hall⟩] at h
                injection h with e1 e2
                subst e1 e2
                have hmem : ∀ x ∈ pathN l0_0 i, x < l0_0.length := by
                  intro x hx
                  have hx2 := pathTo_mem l0_0 (lvsN l0_0) i _ (Nat.le_refl _) x hx
                  obtain ⟨hn, htl⟩ := lvs_at l0_0 (ok_parts hok hne).1
                  have := (cop_at (lvsN l0_0) i hn (by omega)).2.2.2 x hx2
                  omega
                rcases Nat.eq_zero_or_pos l4.length with h0 | h0
                · exact set_go0 A0_0 c0_0 l0_0 i a2 a3 A4 c4 l4 w ⟨hr0_0⟩ ⟨hc0_0⟩ ⟨hT⟩ ⟨hr4⟩ ⟨hck⟩ h1 h2 (pathN l0_0 i) ⟨hpath⟩ (List.length_eq_zero_iff.1 (by omega)) (List.length_eq_zero_iff.1 h0) ⟨hok⟩ (by omega) ⟨hmem⟩
                · have hmin : ¬ minL l4 < 1 := by
                    intro hlt
                    obtain ⟨q, hq1, hq2⟩ := (minL_low h0).1 hlt
                    have := hall q hq1
                    omega
                  exact set_go1 A0_0 c0_0 l0_0 i a2 a3 A4 c4 l4 w ⟨hr0_0⟩ ⟨hc0_0⟩ ⟨hT⟩ ⟨hr4⟩ ⟨hck⟩ h1 h2 (pathN l0_0 i) ⟨hpath⟩ hlen ⟨h0, hmin⟩ (by omega) ⟨hok⟩ (by omega) ⟨hmem⟩
              · rw [if_neg (fun hh => hall hh.2)] at h
                have h0 : 0 < l4.length := by
                  rcases Nat.eq_zero_or_pos l4.length with h0 | h0
                  · exact absurd (fun q hq => by rw [List.length_eq_zero_iff.1 h0] at hq; cases hq) hall
                  · exact h0
                have hlow : minL l4 < 1 := by
                  refine (minL_low h0).2 ?_
                  apply Classical.byContradiction
                  intro hno
                  exact hall (fun q hq => by
                    apply Classical.byContradiction
                    intro hlt
                    exact hno ⟨q, hq, by omega⟩)
                exact (set_low A0_0 c0_0 l0_0 i a2 a3 A4 c4 l4 w ⟨hr0_0⟩ ⟨hc0_0⟩ ⟨hT⟩ ⟨hr4⟩ ⟨hck⟩ h1 h2 _ ⟨hpath⟩ (by rw [hml]; exact hlen) h0 (by omega) hlow).mono (fun e w' he => err 1 e w' he h)
            · rw [if_neg (fun hh => hlen hh.1)] at h
              exact (set_len A0_0 c0_0 l0_0 i a2 a3 A4 c4 l4 w ⟨hr0_0⟩ ⟨hc0_0⟩ ⟨hT⟩ ⟨hck⟩ h1 h2 _ ⟨hpath⟩ (by rw [hml]; exact hlen)).mono (fun e w' he => err 1 e w' he h)
          · rw [if_neg hl] at h
            have hrows : tree_rows.f l0_0 a1 = some ([], 7) := by
              unfold tree_rows.f
              rw [if_pos hw, if_pos hok, if_neg hl]
            exact (set_path A0_0 c0_0 l0_0 a1 a2 a3 A4 c4 l4 w ⟨hr0_0⟩ ⟨hc0_0⟩ ⟨hT⟩ ⟨hck⟩ h1 h2 _ ⟨path_at hrows⟩).mono (fun e w' he => err 7 e w' he h)
        · rw [if_neg (fun hh => h2 hh.2.2)] at h
          exact (set_bad2 A0_0 c0_0 l0_0 a1 a2 a3 A4 c4 l4 w ⟨hr0_0⟩ ⟨hc0_0⟩ ⟨hT⟩ ⟨hck⟩ h1 (by omega)).mono (fun e w' he => err 1 e w' he h)
      · rw [if_neg (fun hh => h1 hh.2.1)] at h
        exact (set_bad1 A0_0 c0_0 l0_0 a1 a2 a3 A4 c4 l4 w ⟨hr0_0⟩ ⟨hc0_0⟩ ⟨hT⟩ ⟨hck⟩ (by omega)).mono (fun e w' he => err 1 e w' he h)
    · rw [if_neg (fun hh => hok hh.1)] at h
      rw [if_neg hok] at hck
      exact (set_odd A0_0 c0_0 l0_0 a1 a2 a3 A4 c4 l4 w ⟨hr0_0⟩ ⟨hc0_0⟩ ⟨hT⟩ ⟨hck⟩).mono (fun e w' he => err 1 e w' he h)
  · rw [if_neg hg] at h; cases h
end
def tree_New.f (a0_0 : Int) (a0_1 : Int) (a0_2 : Int) : Option ((List (S45)) × Int) := (tree_Add.f ([] : List (S45)) a0_0 a0_1 a0_2).bind fun bt192 => (some (bt192.1, bt192.2.2))
set_option maxHeartbeats 8000000 in
set_option maxRecDepth 100000 in
theorem tree_New.calls (a0_0 : Int) (a0_1 : Int) (a0_2 : Int) (r1 : List (S45)) (r2 : Int) (w : World) (hT : TabG w) (h : tree_New.f a0_0 a0_1 a0_2 = some (r1, r2)) :
    Calls Tryd.prog 29 #[.agg #[.int .i64 a0_0, .int .i64 a0_1, .int .i64 a0_2]] w fun e w' => ∃ v0_ : Value, e = .returned (.tuple #[.agg #[v0_], .int .i64 r2]) ∧ Kd.S k45 45 w' w.heap.size (fun _ => True) v0_ r1 ∧ Below w.heap.size w w' := by
  have hu26 := Tryd.underlying26
  have hu24 := Tryd.underlying24
  have HB := Aside0.mk (Below.refl w.heap.size w)
  have HT := Aside0.mk hT
  clear hT
  have H : ((tree_Add.f ([] : List (S45)) a0_0 a0_1 a0_2).bind fun bt192 => (some (bt192.1, bt192.2.2))) = some (r1, r2) := h
  clear h
  replace H := Option.bind_eq_some_iff.mp H
  obtain ⟨⟨t192, t195, t196⟩, A20, H⟩ := H
  replace H : (some (t192, t196)) = some (r1, r2) := H
  have A2 := Aside0.mk A20
  clear A20
  simp only [Option.some.injEq, Prod.mk.injEq] at H
  obtain ⟨rfl, rfl⟩ := H
  go_enter Tryd.func29, Tryd.ntmps29
  go_wp2_with (first | ((with_reducible refine gate_dst (N := 1) rfl ?_); refine box_event ?hg (N := 1) ?hd (cs := #[.int .i64 a0_0, .int .i64 a0_1, .int .i64 a0_2]) (t := 26) ?hr ?_; (case hd => rfl); (case hg => rfl); (case hr => first | (go_simp; done) | (go_simp; rfl)); intro gb190 hg w3 hbox hb; have n0_ := Aside0.mk (below_step (by repeat (first | (with_reducible first | exact HB.out | apply below_alloc | apply pw_below_drewN | apply below_drew1) | exact HB.out)) hb); have n1_ := Aside0.mk (hbox); have n2_ := Aside0.mk ((by rw [hg]; exact (below_size (by repeat (first | (with_reducible first | exact HB.out | apply below_alloc | apply pw_below_drewN | apply below_drew1) | exact HB.out))) : w.heap.size ≤ gb190)); have n3_ := Aside0.mk ((by rw [hg]; exact (below_size (by repeat (first | (with_reducible first | exact HB.out | apply below_alloc | apply pw_below_drewN | apply below_drew1) | exact HB.out))) : w.heap.size ≤ gb190)); clear HB; have HB := n0_; have BK190 := n1_; have GW190 := n2_; have GE190 := n3_; clear n0_ n1_ n2_ n3_; clear hb hbox hg) | ((with_reducible refine gate_dst (N := 2) rfl ?_); refine box_event ?hg (N := 2) ?hd (cs := #[.slice none 0 0]) (t := 24) ?hr ?_; (case hd => rfl); (case hg => rfl); (case hr => first | (go_simp; done) | (go_simp; rfl)); intro gb191 hg w4 hbox hb; have n0_ := Aside0.mk (blk_below (g := gb190) (o := .cells #[.int .i64 a0_0, .int .i64 a0_1, .int .i64 a0_2] 26 (0, 0)) (by (with_reducible repeat (first | refine blk_drewN ?_ _ | refine blk_drew ?_ | refine blk_alloc ?_ _)); exact BK190.out) hb); have n1_ := Aside0.mk (below_step (by repeat (first | (with_reducible first | exact HB.out | apply below_alloc | apply pw_below_drewN | apply below_drew1 | refine below_set ?_ GE190.out) | exact HB.out)) hb); have n2_ := Aside0.mk (hbox); have n3_ := Aside0.mk ((by rw [hg]; exact (below_size (by repeat (first | (with_reducible first | exact HB.out | apply below_alloc | apply pw_below_drewN | apply below_drew1 | refine below_set ?_ GE190.out) | exact HB.out))) : w.heap.size ≤ gb191)); have n4_ := Aside0.mk ((by rw [hg]; exact (below_size (by repeat (first | (with_reducible first | exact HB.out | apply below_alloc | apply pw_below_drewN | apply below_drew1 | refine below_set ?_ GE190.out) | exact HB.out))) : w.heap.size ≤ gb191)); have n5_ := Aside0.mk ((by rw [hg]; exact Nat.ne_of_lt (blk_lt (g := gb190) (o := .cells #[.int .i64 a0_0, .int .i64 a0_1, .int .i64 a0_2] 26 (0, 0)) (by (with_reducible repeat (first | refine blk_drewN ?_ _ | refine blk_drew ?_ | refine blk_alloc ?_ _)); exact BK190.out)) : gb190 ≠ gb191)); have n6_ := Aside0.mk ((by rw [hg]; exact Nat.ne_of_gt (blk_lt (g := gb190) (o := .cells #[.int .i64 a0_0, .int .i64 a0_1, .int .i64 a0_2] 26 (0, 0)) (by (with_reducible repeat (first | refine blk_drewN ?_ _ | refine blk_drew ?_ | refine blk_alloc ?_ _)); exact BK190.out)) : gb191 ≠ gb190)); clear BK190; clear HB; have BK190 := n0_; have HB := n1_; have BK191 := n2_; have GW191 := n3_; have GE191 := n4_; have NB190_191 := n5_; have NB191_190 := n6_; clear n0_ n1_ n2_ n3_ n4_ n5_ n6_; clear hb hbox hg; have hnb5 := NB190_191.out; have hnc5 := NB191_190.out; have hcz6_0 : w4.cell? ⟨gb190, 0, none⟩ = some (.int .i64 a0_0) := (blk_cell BK190.out 0).trans rfl; have hcz6_1 : w4.cell? ⟨gb190, 1, none⟩ = some (.int .i64 a0_1) := (blk_cell BK190.out 1).trans rfl; have hcz6_2 : w4.cell? ⟨gb190, 2, none⟩ = some (.int .i64 a0_2) := (blk_cell BK190.out 2).trans rfl; have hfz6_0 := blk_frozen BK190.out 0; have hfz6_1 := blk_frozen BK190.out 1; have hfz6_2 := blk_frozen BK190.out 2) | ((with_reducible refine gate_callee (f := 13) rfl ?_); refine goesL_ (some 10) rfl rfl Tryd.func13 (by kernel_rfl) rfl #[.agg #[.slice none 0 0], .agg #[.int .i64 a0_0, .int .i64 a0_1, .int .i64 a0_2]] rfl (by (try simp only [List.map_toArray, List.map_cons, List.map_nil]); first | done | rfl | (simp only [List.length_drop, List.length_take]; rfl)) ?_; (refine (tree_Add.calls _ _ ([] : List (S45)) a0_0 a0_1 a0_2 t192 t195 t196 _ ?side1 ?side2 ?side3 A2.out).mono ?_); (case side1 => exact Kd.C_nil _ _); (case side2 => exact Nat.le_refl _); (case side3 => repeat (first | exact HT.out | exact TabG.below HT.out HB.out | (with_reducible refine TabG.alloc ?_ _) | (with_reducible refine TabG.drewN ?_ _) | (with_reducible refine TabG.drew ?_) | exact TabG.below HT.out (by repeat (first | (with_reducible first | exact HB.out | apply below_alloc | apply pw_below_drewN | apply below_drew1 | refine below_set ?_ GE190.out | refine below_set ?_ GE191.out) | exact HB.out)))); rintro e w7 ⟨v193, rfl, ho0, hb⟩; refine ⟨_, rfl, ?_⟩; have n0_ := Aside0.mk (Kd.S_lower ho0 (below_size (by repeat (first | (with_reducible first | exact HB.out | apply below_alloc | apply pw_below_drewN | apply below_drew1 | refine below_set ?_ GE190.out | refine below_set ?_ GE191.out) | exact HB.out)))); have n1_ := Aside0.mk (blk_below (g := gb190) (o := .cells #[.int .i64 a0_0, .int .i64 a0_1, .int .i64 a0_2] 26 (0, 0)) (by (with_reducible repeat (first | refine blk_drewN ?_ _ | refine blk_drew ?_ | refine blk_alloc ?_ _)); exact BK190.out) hb); have n2_ := Aside0.mk (blk_below (g := gb191) (o := .cells #[.slice none 0 0] 24 (0, 0)) (by (with_reducible repeat (first | refine blk_drewN ?_ _ | refine blk_drew ?_ | refine blk_alloc ?_ _)); exact BK191.out) hb); have n3_ := Aside0.mk (below_step (by repeat (first | (with_reducible first | exact HB.out | apply below_alloc | apply pw_below_drewN | apply below_drew1 | refine below_set ?_ GE190.out | refine below_set ?_ GE191.out) | exact HB.out)) hb); clear BK190; clear BK191; clear HB; have HO194 := n0_; have BK190 := n1_; have BK191 := n2_; have HB := n3_; clear n0_ n1_ n2_ n3_; (try clear hb); (try clear hb2); (try clear hk); (try clear hi); (try clear ho0)) | ((with_reducible refine gate_dst (N := 4) rfl ?_); refine box_event ?hg (N := 4) ?hd (cs := #[.slice none 0 0]) (t := 24) ?hr ?_; (case hd => rfl); (case hg => rfl); (case hr => first | (go_simp; done) | (go_simp; rfl)); intro gb197 hg w8 hbox hb; have n0_ := Aside0.mk (Kd.S_below (by (with_reducible repeat (first | apply Kd.S_alloc | apply Kd.S_drewN | apply Kd.S_drew)); exact HO194.out) hb); have n1_ := Aside0.mk (blk_below (g := gb190) (o := .cells #[.int .i64 a0_0, .int .i64 a0_1, .int .i64 a0_2] 26 (0, 0)) (by (with_reducible repeat (first | refine blk_drewN ?_ _ | refine blk_drew ?_ | refine blk_alloc ?_ _)); exact BK190.out) hb); have n2_ := Aside0.mk (blk_below (g := gb191) (o := .cells #[.slice none 0 0] 24 (0, 0)) (by (with_reducible repeat (first | refine blk_drewN ?_ _ | refine blk_drew ?_ | refine blk_alloc ?_ _)); exact BK191.out) hb); have n3_ := Aside0.mk (below_step (by repeat (first | (with_reducible first | exact HB.out | apply below_alloc | apply pw_below_drewN | apply below_drew1 | refine below_set ?_ GE190.out | refine below_set ?_ GE191.out) | exact HB.out)) hb); have n4_ := Aside0.mk (hbox); have n5_ := Aside0.mk ((by rw [hg]; exact (below_size (by repeat (first | (with_reducible first | exact HB.out | apply below_alloc | apply pw_below_drewN | apply below_drew1 | refine below_set ?_ GE190.out | refine below_set ?_ GE191.out) | exact HB.out))) : w.heap.size ≤ gb197)); have n6_ := Aside0.mk ((by rw [hg]; exact (below_size (by repeat (first | (with_reducible first | exact HB.out | apply below_alloc | apply pw_below_drewN | apply below_drew1 | refine below_set ?_ GE190.out | refine below_set ?_ GE191.out) | exact HB.out))) : w.heap.size ≤ gb197)); have n7_ := Aside0.mk ((by rw [hg]; exact Nat.ne_of_lt (blk_lt (g := gb190) (o := .cells #[.int .i64 a0_0, .int .i64 a0_1, .int .i64 a0_2] 26 (0, 0)) (by (with_reducible repeat (first | refine blk_drewN ?_ _ | refine blk_drew ?_ | refine blk_alloc ?_ _)); exact BK190.out)) : gb190 ≠ gb197)); have n8_ := Aside0.mk ((by rw [hg]; exact Nat.ne_of_gt (blk_lt (g := gb190) (o := .cells #[.int .i64 a0_0, .int .i64 a0_1, .int .i64 a0_2] 26 (0, 0)) (by (with_reducible repeat (first | refine blk_drewN ?_ _ | refine blk_drew ?_ | refine blk_alloc ?_ _)); exact BK190.out)) : gb197 ≠ gb190)); have n9_ := Aside0.mk ((by rw [hg]; exact Nat.ne_of_lt (blk_lt (g := gb191) (o := .cells #[.slice none 0 0] 24 (0, 0)) (by (with_reducible repeat (first | refine blk_drewN ?_ _ | refine blk_drew ?_ | refine blk_alloc ?_ _)); exact BK191.out)) : gb191 ≠ gb197)); have n10_ := Aside0.mk ((by rw [hg]; exact Nat.ne_of_gt (blk_lt (g := gb191) (o := .cells #[.slice none 0 0] 24 (0, 0)) (by (with_reducible repeat (first | refine blk_drewN ?_ _ | refine blk_drew ?_ | refine blk_alloc ?_ _)); exact BK191.out)) : gb197 ≠ gb191)); clear HO194; clear BK190; clear BK191; clear HB; have HO194 := n0_; have BK190 := n1_; have BK191 := n2_; have HB := n3_; have BK197 := n4_; have GW197 := n5_; have GE197 := n6_; have NB190_197 := n7_; have NB197_190 := n8_; have NB191_197 := n9_; have NB197_191 := n10_; clear n0_ n1_ n2_ n3_ n4_ n5_ n6_ n7_ n8_ n9_ n10_; clear hb hbox hg; obtain ⟨Ao9, co9, eo9⟩ := Kd.S_slice HO194.out; subst eo9; have hnb10 := NB197_190.out; have hnc10 := NB190_197.out; have hnb11 := NB197_191.out; have hnc11 := NB191_197.out; have hcz12_0 : w8.cell? ⟨gb197, 0, none⟩ = some (.slice none 0 0) := (blk_cell BK197.out 0).trans rfl; have hfz12_0 := blk_frozen BK197.out 0; have hcz13_0 : w8.cell? ⟨gb191, 0, none⟩ = some (.slice none 0 0) := (blk_cell BK191.out 0).trans rfl; have hfz13_0 := blk_frozen BK191.out 0))
  refine bodyPost_ret (results_ct rfl _ _ gb191 24 #[.slice Ao9 t192.length co9] (0, 0) _ rfl (by (with_reducible repeat (first | refine blk_drewN ?_ _ | refine blk_drew ?_ | refine blk_alloc ?_ _)); refine blk_put (cs := #[.slice none 0 0]) ?_ 0 _ rfl; (with_reducible repeat (first | refine blk_drewN ?_ _ | refine blk_drew ?_ | refine blk_alloc ?_ _)); refine blk_far ?_ NB191_197.out _; (with_reducible repeat (first | refine blk_drewN ?_ _ | refine blk_drew ?_ | refine blk_alloc ?_ _)); exact BK191.out) Tryd.underlying24 rfl (by kernel_rfl)) rfl ?_
  exact ⟨_, by first | rfl | (simp [errW_none, errW_some] <;> rfl) | (simp [*, errW_none, errW_some] <;> rfl), by (with_reducible repeat (first | apply Kd.S_alloc | apply Kd.S_drewN | apply Kd.S_drew)); exact Kd.S_mono (Kd.S_far (p := ⟨gb191, 0, none⟩) (Kd.S_far (p := ⟨gb197, 0, none⟩) (Kd.S_types (Kd.S_types HO194.out BK197.out (by decide)) BK191.out (by decide)) (fun _ hk => hk.1.2) (.slice Ao9 t192.length co9)) (fun _ hk => hk.2) (.slice Ao9 t192.length co9)) (fun _ hk => trivial), by repeat (first | (with_reducible first | exact HB.out | apply below_alloc | apply pw_below_drewN | apply below_drew1 | refine below_set ?_ GE190.out | refine below_set ?_ GE191.out | refine below_set ?_ GE197.out) | exact HB.out)⟩
end Go.Proofs.YtfgalpfiggnkpaaDoor.PT
