/- What treeFresh_card uses of the printed words and contracts. -/
import Derived.Test.YtfgalpfiggnkpaaDoorFrPTx0
import Derived.Test.YtfgalpfiggnkpaaDoorFrPTx1
import Derived.Test.YtfgalpfiggnkpaaDoorFrPTx3
import Derived.Test.YtfgalpfiggnkpaaDoorFrPTx4
import Derived.Test.YtfgalpfiggnkpaaDoorFrPTx5
import Derived.Test.YtfgalpfiggnkpaaDoorFrPTx6
import Derived.Test.YtfgalpfiggnkpaaDoorFrPTx9
namespace Go.Proofs.YtfgalpfiggnkpaaDoor.PT
open Go.RowKit Go.Proofs.YtfgalpfiggnkpaaDoorW.PrintWords Go.Proofs.YtfgalpfiggnkpaaDoorW.PrintLast Go.Proofs.YtfgalpfiggnkpaaDoorW.PrintMore
attribute [local go_sem] max2_int min2_int max_two min_two max_three min_three max_four min_four   -- for this text's walks alone
set_option linter.unusedVariables false
set_option linter.unusedSimpArgs false
section
def memFrom (t : List S45) : Nat → Nat → List Int
  | 0, _ => []
  | d + 1, i => if 0 < (nodeN t (2 * i)).f0 then (nodeN t (2 * i)).f1 :: memFrom t d (i + 1) else memFrom t d (i + 1)
def memT (t : List S45) : List Int := if okB t = true then memFrom t (lvsN t) 0 else []
theorem mem_go (t : List S45) (n : Nat) (hl : n = 0 ∨ t.length = 2 * n - 1) (hn : n ≤ 8) : ∀ (d i k : Nat) (l : List Int), i + d = n → d < k → l.length ≤ i → tree_Members.l0 k l (n : Int) (i : Int) t = some (l ++ memFrom t d i) := by
  intro d
  induction d with
  | zero =>
    intro i k l hi hk hll
    obtain ⟨k, rfl⟩ : ∃ q, k = q + 1 := ⟨k - 1, by omega⟩
    simp only [tree_Members.l0, memFrom]
    rw [if_neg (by omega), List.append_nil]
  | succ d ih =>
    intro i k l hi hk hll
    obtain ⟨k, rfl⟩ : ∃ q, k = q + 1 := ⟨k - 1, by omega⟩
    have hw : wrap64 (2 * (i : Int)) = ((2 * i : Nat) : Int) := by unfold wrap64; omega
    have hw1 : wrap64 ((i : Int) + 1) = ((i + 1 : Nat) : Int) := by unfold wrap64; omega
    simp only [tree_Members.l0, memFrom]
    rw [if_pos (by omega), hw, if_pos (by omega), if_pos (by omega), rd_at, hw1]
    by_cases h0 : 0 < (nodeN t (2 * i)).f0
    · rw [if_pos h0, if_pos h0, if_pos (by omega), ih (i + 1) k _ (by omega) (by omega) (by simp; omega)]
      simp
    · rw [if_neg (by omega), if_neg h0, ih (i + 1) k l (by omega) (by omega) (by omega)]
theorem mem_at {t : List S45} (hw : t.all (fun n => wfI n.f1) = true) : tree_Members.f 10 t = some (memT t) := by
  unfold tree_Members.f memT
  rw [size_at hw, Option.bind_some]
  by_cases hok : okB t = true
  · rw [if_pos hok, if_pos hok]
    have hl := ok_len hok
    have := mem_go t (lvsN t) (by rcases hl with ⟨_, h⟩ | h <;> omega) (by rcases hl with ⟨_, h⟩ | h <;> omega) (lvsN t) 0 10 [] (by omega) (by rcases hl with ⟨_, h⟩ | h <;> omega) (by simp)
    simpa using this
  · rw [if_neg hok, if_neg hok]
    have := mem_go t 0 (by omega) (by omega) 0 0 10 [] (by omega) (by omega) (by simp)
    simpa [memFrom] using this
theorem findT_sign (t : List S45) (m : Int) : findT t m = -1 ∨ (0 ≤ findT t m ∧ findT t m < lvsN t ∧ okB t = true) := by
  unfold findT
  by_cases hok : okB t = true
  · rw [if_pos hok]
    rcases findFrom_sign t m (lvsN t) 0 with h | h
    · exact .inl h
    · exact .inr ⟨by omega, by omega, hok⟩
  · rw [if_neg hok]; exact .inl rfl
def takenFrom (l : List S45) : Nat → Nat → Bool
  | 0, _ => false
  | d + 1, i => if i < l.length then (!blankB (nodeN l i) || takenFrom l d (i + 2)) else false
def takenB (l : List S45) : Bool := takenFrom l 9 0
theorem taken_go (l : List S45) (hl : l.length ≤ 15) : ∀ (d i k : Nat), l.length ≤ i + 2 * d → d < k → tree_taken.l0 k l (i : Int) = some (takenFrom l d i) := by
  intro d
  induction d with
  | zero =>
    intro i k hi hk
    obtain ⟨k, rfl⟩ : ∃ q, k = q + 1 := ⟨k - 1, by omega⟩
    simp only [tree_taken.l0, takenFrom]
    rw [if_neg (by omega)]
  | succ d ih =>
    intro i k hi hk
    obtain ⟨k, rfl⟩ : ∃ q, k = q + 1 := ⟨k - 1, by omega⟩
    simp only [tree_taken.l0, takenFrom]
    by_cases h : i < l.length
    · have hw1 : wrap64 ((i : Int) + 2) = ((i + 2 : Nat) : Int) := by unfold wrap64; omega
      rw [if_pos (by omega), if_pos (by omega), if_pos h, rd_at, blank_at, Option.bind_some, hw1, ih (i + 2) k (by omega) (by omega)]
      cases blankB (nodeN l i) <;> simp
    · rw [if_neg (by omega), if_neg h]
theorem taken_at (l : List S45) (hl : l.length ≤ 15) : tree_taken.f 10 l = some (takenB l) := by
  unfold tree_taken.f takenB
  have := taken_go l hl 9 0 10 (by omega) (by omega)
  simpa using this
def blankL (T : List S45) : List Nat → List S45
  | [] => T
  | x :: xs => blankL (T.set x z45) xs
theorem blankL_snoc (x : Nat) : ∀ (xs : List Nat) (T : List S45), blankL T (xs ++ [x]) = (blankL T xs).set x z45 := by
  intro xs
  induction xs with
  | nil => intro T; rfl
  | cons y ys ih => intro T; exact ih _
theorem blankL_len : ∀ (xs : List Nat) (T : List S45), (blankL T xs).length = T.length := by
  intro xs
  induction xs with
  | nil => intro T; rfl
  | cons y ys ih => intro T; rw [blankL, ih, List.length_set]
theorem blankL_take {j : Nat} {dl : List Nat} {T : List S45} (h : j < dl.length) : blankL T (dl.take (j + 1)) = (blankL T (dl.take j)).set (dl.getD j 0) z45 := by
  rw [List.take_succ_eq_append_getElem h, blankL_snoc, List.getD_eq_getElem?_getD, List.getElem?_eq_getElem h]
  rfl
def shrN (T : List S45) : Nat → Nat → Nat
  | 0, n => n
  | d + 1, n => if 1 < n ∧ takenB ((T.take (2 * n - 1)).drop n) = false then shrN T d (n / 2) else n
def cutT (t : List S45) (n i : Nat) : List S45 := blankL (t.set (2 * i) z45) (dirL n i)
def remT (t : List S45) (n i : Nat) : List S45 := (cutT t n i).take (2 * shrN (cutT t n i) 4 n - 1)
structure BxB (A0 : Option Addr) (n c0 : Nat) (w wr : World) : Prop where
  b0 : wr.heap[w.heap.size]? = some (.cells #[.slice A0 n c0] 24 (0, 0))
  b2 : wr.heap[w.heap.size + 1]? = some (.cells #[.slice none 0 0] 24 (0, 0))
  bel : Below w.heap.size w wr
  sz : w.heap.size + 1 + 1 ≤ wr.heap.size
theorem BxB.start {A0 : Option Addr} {n c0 : Nat} {w w1 : World}
    (hb : Below ((w.alloc (.cells #[.slice A0 n c0] 24)).alloc (.cells #[.slice none 0 0] 24)).heap.size ((w.alloc (.cells #[.slice A0 n c0] 24)).alloc (.cells #[.slice none 0 0] 24)) w1) : BxB A0 n c0 w w1 := by
  refine ⟨?_, ?_, below_box (below_box hb), by have := hb.size; simpa using this⟩
  · exact blk_below (blk_below (heap_alloc_new w (.cells #[.slice A0 n c0] 24)) (below_alloc (Below.refl _ _) (.cells #[.slice none 0 0] 24))) hb
  · have h := blk_below (heap_alloc_new (w.alloc (.cells #[.slice A0 n c0] 24)) (.cells #[.slice none 0 0] 24)) hb
    simpa using h
theorem BxB.below {A0 : Option Addr} {n c0 : Nat} {w w1 w2 : World} (h : BxB A0 n c0 w w1) (hb : Below w1.heap.size w1 w2) : BxB A0 n c0 w w2 :=
  ⟨blk_below h.b0 hb, blk_below h.b2 hb, h.bel.trans (hb.mono h.bel.size), Nat.le_trans h.sz hb.size⟩
theorem BxB.set {A0 : Option Addr} {n c0 : Nat} {w w1 : World} {g : Nat} (h : BxB A0 n c0 w w1) (hg : w.heap.size + 1 + 1 ≤ g) (i : Nat) (v : Value) : BxB A0 n c0 w (w1.setCell ⟨g, i, none⟩ v) :=
  ⟨blk_far h.b0 (show w.heap.size ≠ g by omega) _, blk_far h.b2 (show w.heap.size + 1 ≠ g by omega) _, Below.setCell h.bel (by show w.heap.size ≤ g; omega) _, by simpa using h.sz⟩
theorem BxB.cells {A0 : Option Addr} {n c0 : Nat} {w w1 : World} (h : BxB A0 n c0 w w1) :
    w1.cell? ⟨w.heap.size, 0, none⟩ = some (.slice A0 n c0) ∧ w1.cell? ⟨w.heap.size + 1, 0, none⟩ = some (.slice none 0 0) ∧ w1.frozen? ⟨w.heap.size + 1, 0, none⟩ = false :=
  ⟨blk_cell h.b0 0, blk_cell h.b2 0, blk_frozen h.b2 0⟩
theorem BxB.res {A0 : Option Addr} {n c0 : Nat} {w w1 : World} (h : BxB A0 n c0 w w1) (v : Value) : (w1.setCell ⟨w.heap.size + 1, 0, none⟩ v).cell? ⟨w.heap.size + 1, 0, none⟩ = some v ∧ Below w.heap.size w (w1.setCell ⟨w.heap.size + 1, 0, none⟩ v) :=
  ⟨by rw [blk_cell (blk_set h.b2 0 v) 0]; rfl, Below.setCell h.bel (by show w.heap.size ≤ w.heap.size + 1; omega) _⟩
def RemErr (w : World) (x : Int) (e : Ending) (w' : World) : Prop := e = .returned (.tuple #[.agg #[.slice none 0 0], .int .i64 x]) ∧ Below w.heap.size w w'
set_option maxRecDepth 100000 in
theorem rem_odd (A0 : Option Addr) (c0 : Nat) (t : List S45) (m : Int) (w : World) (HR : Aside0 (Kd.C k45 w A0 t.length t)) (HC : Aside0 (t.length ≤ c0)) (HT : Aside0 (TabG w)) (FD : Aside0 (tree_Find.f 10 t m = some (-1))) (CK : Aside0 (tree_Check.f t = some 1)) :
    Calls Tryd.prog 14 #[.agg #[.slice A0 t.length c0], .int .i64 m] w (RemErr w 1) := by
  have hu24 := Tryd.underlying24
  go_enter Tryd.func14, Tryd.ntmps14
  go_wp2_with (first | (go_at_call 15; refine (tree_Find.calls 10 A0 c0 t _ _ _ (Kd.C_alloc (Kd.C_alloc HR.out _) _) HC.out ((HT.out.alloc _).alloc _) FD.out).mono ?_; rintro e w1 ⟨rfl, hb⟩; have AB := Aside0.mk (BxB.start hb); obtain ⟨x0, x1, x2⟩ := AB.out.cells; clear hb) | (go_at_call 10; refine (tree_Check.calls A0 c0 t _ _ (Kd.C_below HR.out AB.out.bel) HC.out (TabG.below HT.out AB.out.bel) CK.out).mono ?_; rintro e w2 ⟨rfl, hb⟩; have AB2 := Aside0.mk (AB.out.below hb); clear x0 x1 x2; obtain ⟨x0, x1, x2⟩ := AB2.out.cells; clear hb))
  have hq := (AB2.out.res (.slice none 0 0)).1
  exact bodyPost_ret (v := .tuple #[.agg #[.slice none 0 0], .int .i64 1]) (by simp [results, Tryd.results14, go_sem, hq]) rfl ⟨rfl, (AB2.out.res _).2⟩
set_option maxRecDepth 100000 in
theorem rem_gone (A0 : Option Addr) (c0 : Nat) (t : List S45) (m : Int) (w : World) (HR : Aside0 (Kd.C k45 w A0 t.length t)) (HC : Aside0 (t.length ≤ c0)) (HT : Aside0 (TabG w)) (FD : Aside0 (tree_Find.f 10 t m = some (-1))) (CK : Aside0 (tree_Check.f t = some 0)) :
    Calls Tryd.prog 14 #[.agg #[.slice A0 t.length c0], .int .i64 m] w (RemErr w 7) := by
  have hu24 := Tryd.underlying24
  go_enter Tryd.func14, Tryd.ntmps14
  go_wp2_with (first | (go_at_call 15; refine (tree_Find.calls 10 A0 c0 t _ _ _ (Kd.C_alloc (Kd.C_alloc HR.out _) _) HC.out ((HT.out.alloc _).alloc _) FD.out).mono ?_; rintro e w1 ⟨rfl, hb⟩; have AB := Aside0.mk (BxB.start hb); obtain ⟨x0, x1, x2⟩ := AB.out.cells; clear hb) | (go_at_call 10; refine (tree_Check.calls A0 c0 t _ _ (Kd.C_below HR.out AB.out.bel) HC.out (TabG.below HT.out AB.out.bel) CK.out).mono ?_; rintro e w2 ⟨rfl, hb⟩; have AB2 := Aside0.mk (AB.out.below hb); clear x0 x1 x2; obtain ⟨x0, x1, x2⟩ := AB2.out.cells; clear hb))
  have hq := (AB2.out.res (.slice none 0 0)).1
  exact bodyPost_ret (v := .tuple #[.agg #[.slice none 0 0], .int .i64 7]) (by simp [results, Tryd.results14, go_sem, hq]) rfl ⟨rfl, (AB2.out.res _).2⟩
set_option maxRecDepth 100000 in
theorem rem_last (A0 : Option Addr) (c0 : Nat) (t : List S45) (m : Int) (i : Nat) (l : List Int) (w : World) (HR : Aside0 (Kd.C k45 w A0 t.length t)) (HC : Aside0 (t.length ≤ c0)) (HT : Aside0 (TabG w)) (FD : Aside0 (tree_Find.f 10 t m = some (i : Int))) (CK : Aside0 (tree_Check.f t = some 0)) (MB : Aside0 (tree_Members.f 10 t = some l)) (hl : Aside0 (l.length = 1)) :
    Calls Tryd.prog 14 #[.agg #[.slice A0 t.length c0], .int .i64 m] w (RemErr w 9) := by
  have hu24 := Tryd.underlying24
  have d1 : decide ((i : Int) < 0) = false := decide_eq_false (by omega)
  go_enter Tryd.func14, Tryd.ntmps14
  go_wp2_with (first | (go_at_call 15; refine (tree_Find.calls 10 A0 c0 t _ _ _ (Kd.C_alloc (Kd.C_alloc HR.out _) _) HC.out ((HT.out.alloc _).alloc _) FD.out).mono ?_; rintro e w1 ⟨rfl, hb⟩; have AB := Aside0.mk (BxB.start hb); obtain ⟨x0, x1, x2⟩ := AB.out.cells; clear hb) | (go_at_call 10; refine (tree_Check.calls A0 c0 t _ _ (Kd.C_below HR.out AB.out.bel) HC.out (TabG.below HT.out AB.out.bel) CK.out).mono ?_; rintro e w2 ⟨rfl, hb⟩; have AB2 := Aside0.mk (AB.out.below hb); clear x0 x1 x2; obtain ⟨x0, x1, x2⟩ := AB2.out.cells; clear hb) | (go_at_call 12; refine (tree_Members.calls 10 A0 c0 t _ _ (Kd.C_below HR.out AB2.out.bel) HC.out (TabG.below HT.out AB2.out.bel) MB.out).mono ?_; rintro e w3 ⟨v3, rfl, ho, hb⟩; obtain ⟨A3, c3, rfl⟩ := Kd.R_slice ho; rw [hl.out]; have AB3 := Aside0.mk (AB2.out.below hb); clear x0 x1 x2; obtain ⟨x0, x1, x2⟩ := AB3.out.cells; clear hb ho))
  have hq := (AB3.out.res (.slice none 0 0)).1
  exact bodyPost_ret (v := .tuple #[.agg #[.slice none 0 0], .int .i64 9]) (by simp [results, Tryd.results14, go_sem, hq]) rfl ⟨rfl, (AB3.out.res _).2⟩
structure BxL (A0 : Option Addr) (n c0 : Nat) (w : World) (B0 g b9 L M : Nat) (Ad : Option Addr) (dl : List Nat) (T : List S45) (wr : World) : Prop where
  tb : ∃ cs us, TB wr B0 g cs us T
  bx : wr.heap[b9]? = some (.cells #[.slice (some ⟨g, 0, none⟩) L M] 24 (0, 0))
  ab : BxB A0 n c0 w wr
  dc : ∀ q, q < dl.length → ∃ ad, Ad = some ad ∧ wr.cell? (ad.add q) = some (.int .i64 ((dl.getD q 0 : Nat) : Int))
  ga : ∀ ad, Ad = some ad → g ≠ ad.block
  gb : g ≠ b9
  lo : w.heap.size + 1 + 1 ≤ B0
theorem BxL.begin {A0 : Option Addr} {n c0 : Nat} {w W5 w6 : World} {B0 g b9 L M : Nat} {Ad : Option Addr} {dl : List Nat} {cs us : List Value} {T : List S45}
    (h : BxB A0 n c0 w W5) (ht : TB W5 B0 g cs us T) (hx : W5.heap[b9]? = some (.cells #[.slice (some ⟨g, 0, none⟩) L M] 24 (0, 0))) (gb : g ≠ b9) (lo : w.heap.size + 1 + 1 ≤ B0)
    (hC : Kd.C (Kd.int .i64) w6 Ad dl.length (dl.map (fun (x : Nat) => (x : Int)))) (hA : ∀ ad, Ad = some ad → W5.heap.size ≤ ad.block ∧ ad.block < w6.heap.size) (hb : Below W5.heap.size W5 w6) :
    BxL A0 n c0 w B0 g b9 L M Ad dl T w6 := by
  have hgl := ht.lt
  refine ⟨⟨_, _, TB.below ht hb⟩, blk_below hx hb, h.below hb, ?_, fun ad had => by have := (hA ad had).1; omega, gb, lo⟩
  intro q hq
  obtain ⟨ad, had, hc⟩ := Kd.at_int hC (q : Int) (by omega) (by omega)
  refine ⟨ad, had, ?_⟩
  rw [Int.toNat_natCast] at hc
  rw [hc]
  unfold rd
  rw [Int.toNat_natCast, List.getD_eq_getElem?_getD, List.getD_eq_getElem?_getD, List.getElem?_map, List.getElem?_eq_getElem hq]
  rfl
theorem cell_set_far {W : World} {g i : Nat} {v u : Value} {a : Addr} (h : W.cell? a = some u) (hne : g ≠ a.block) : (W.setCell ⟨g, i, none⟩ v).cell? a = some u := by
  rw [← h]
  unfold World.cell?
  rw [Below.heap_setCell W ⟨g, i, none⟩ v a.block (fun e => hne e.symm)]
theorem BxL.dc_set {A0 : Option Addr} {n c0 : Nat} {w wr : World} {B0 g b9 L M : Nat} {Ad : Option Addr} {dl : List Nat} {T : List S45} (h : BxL A0 n c0 w B0 g b9 L M Ad dl T wr) {W : World} (hW : ∀ q, q < dl.length → ∃ ad, Ad = some ad ∧ W.cell? (ad.add q) = some (.int .i64 ((dl.getD q 0 : Nat) : Int))) (i : Nat) (v : Value) :
    ∀ q, q < dl.length → ∃ ad, Ad = some ad ∧ (W.setCell ⟨g, i, none⟩ v).cell? (ad.add q) = some (.int .i64 ((dl.getD q 0 : Nat) : Int)) := by
  intro q hq
  obtain ⟨ad, had, hc⟩ := hW q hq
  exact ⟨ad, had, cell_set_far hc (by rw [add_block]; exact h.ga ad had)⟩
theorem BxL.node {A0 : Option Addr} {n c0 : Nat} {w wr : World} {B0 g b9 L M : Nat} {Ad : Option Addr} {dl : List Nat} {T : List S45} (h : BxL A0 n c0 w B0 g b9 L M Ad dl T wr) {x : Nat} (hx : x < T.length) (y : S45) (hy : y.f3 = []) :
    BxL A0 n c0 w B0 g b9 L M Ad dl (T.set x y) ((((wr.setCell ⟨g, x * 4, none⟩ (.int .i64 y.f0)).setCell ⟨g, x * 4 + 1, none⟩ (.int .i64 y.f1)).setCell ⟨g, x * 4 + 2, none⟩ (.int .i64 y.f2)).setCell ⟨g, x * 4 + 3, none⟩ (.slice none 0 0)) := by
  obtain ⟨cs, us, ht⟩ := h.tb
  have hgB := ht.hb
  have hlo := h.lo
  have hgb : b9 ≠ g := fun e => h.gb e.symm
  refine ⟨⟨_, _, ht.node hx y hy⟩, ?_, ?_, ?_, h.ga, h.gb, h.lo⟩
  · exact blk_far (blk_far (blk_far (blk_far h.bx (show b9 ≠ g from hgb) _) (show b9 ≠ g from hgb) _) (show b9 ≠ g from hgb) _) (show b9 ≠ g from hgb) _
  · exact (((h.ab.set (by omega) _ _).set (by omega) _ _).set (by omega) _ _).set (by omega) _ _
  · exact h.dc_set (h.dc_set (h.dc_set (h.dc_set h.dc _ _) _ _) _ _) _ _
def RemPost (w : World) (r : List S45) (e : Ending) (w' : World) : Prop := ∃ v0_ : Value, e = .returned (.tuple #[.agg #[v0_], .int .i64 0]) ∧ Kd.S k45 45 w' w.heap.size (fun _ => True) v0_ r ∧ Below w.heap.size w w'
theorem BxL.start {A0 : Option Addr} {n c0 : Nat} {w w4 w6 : World} {B0 g M j : Nat} {Ad : Option Addr} {dl : List Nat} {cs us : List Value} {T1 : List S45}
    (h : BxB A0 n c0 w w4) (ht : TB w4 B0 g cs us T1) (hM : T1.length = M) (hk : j < M) (hlo : w.heap.size + 1 + 1 ≤ B0) (y : S45) (hy : y.f3 = [])
    (hC : Kd.C (Kd.int .i64) w6 Ad dl.length (dl.map (fun (x : Nat) => (x : Int))))
    (hA : ∀ ad, Ad = some ad → (((((w4.setCell ⟨g, j * 4, none⟩ (.int .i64 y.f0)).setCell ⟨g, j * 4 + 1, none⟩ (.int .i64 y.f1)).setCell ⟨g, j * 4 + 2, none⟩ (.int .i64 y.f2)).setCell ⟨g, j * 4 + 3, none⟩ (.slice none 0 0)).alloc (.cells #[.slice (some ⟨g, 0, none⟩) M M] 24)).heap.size ≤ ad.block ∧ ad.block < w6.heap.size)
    (hb : Below (((((w4.setCell ⟨g, j * 4, none⟩ (.int .i64 y.f0)).setCell ⟨g, j * 4 + 1, none⟩ (.int .i64 y.f1)).setCell ⟨g, j * 4 + 2, none⟩ (.int .i64 y.f2)).setCell ⟨g, j * 4 + 3, none⟩ (.slice none 0 0)).alloc (.cells #[.slice (some ⟨g, 0, none⟩) M M] 24)).heap.size (((((w4.setCell ⟨g, j * 4, none⟩ (.int .i64 y.f0)).setCell ⟨g, j * 4 + 1, none⟩ (.int .i64 y.f1)).setCell ⟨g, j * 4 + 2, none⟩ (.int .i64 y.f2)).setCell ⟨g, j * 4 + 3, none⟩ (.slice none 0 0)).alloc (.cells #[.slice (some ⟨g, 0, none⟩) M M] 24)) w6) :
    BxL A0 n c0 w B0 g w4.heap.size M M Ad dl (T1.set j y) w6 := by
  have hgl := ht.lt
  have hgB := ht.hb
  have h5 := TB.node ht (j := j) (by omega) y hy
  refine BxL.begin ?_ (TB.below h5 (below_alloc (Below.refl _ _) (.cells #[.slice (some ⟨g, 0, none⟩) M M] 24))) ?_ (by omega) hlo hC hA hb
  · exact ((((h.set (by omega) _ _).set (by omega) _ _).set (by omega) _ _).set (by omega) _ _).below (below_alloc (Below.refl _ _) _)
  · have := heap_alloc_new ((((w4.setCell ⟨g, j * 4, none⟩ (.int .i64 y.f0)).setCell ⟨g, j * 4 + 1, none⟩ (.int .i64 y.f1)).setCell ⟨g, j * 4 + 2, none⟩ (.int .i64 y.f2)).setCell ⟨g, j * 4 + 3, none⟩ (.slice none 0 0)) (.cells #[.slice (some ⟨g, 0, none⟩) M M] 24)
    simpa using this
theorem taken_row (A : Option Addr) (c n : Nat) (l : List S45) (w : World) (hn : l.length = n) (HR : Kd.C k45 w A n l) (hc : n ≤ c) (hl : n ≤ 15) : Calls Tryd.prog 34 #[.slice A n c] w fun e w' => e = .returned (.bool (takenB l)) ∧ Below w.heap.size w w' := by
  subst hn
  exact tree_taken.calls 10 A c l _ w HR hc (taken_at l hl)
theorem TB.C {W : World} {base g : Nat} {cs us : List Value} {T : List S45} (h : TB W base g cs us T) (hm : T.length ≤ 9223372036854775807) : Kd.C k45 W (some ⟨g, 0, none⟩) T.length T := (Kd.R_reads' (h.R hm)).2.2
theorem TB.mid {W : World} {base g M lo hi : Nat} {cs us : List Value} {T : List S45} (h : TB W base g cs us T) (hM : T.length = M) (hm : M ≤ 15) (h1 : lo ≤ hi) (h2 : hi ≤ M) (h3 : lo < M) : Kd.C k45 W (some ⟨g, lo * 4, none⟩) (hi - lo) ((T.take hi).drop lo) := by
  have hC := TB.C h (by omega)
  have := Kd.C_mid (c := M) hC h1 (by omega) (by omega)
  rw [if_neg (by omega)] at this
  have hl : ((T.take hi).drop lo).length = hi - lo := by rw [List.length_drop, List.length_take]; omega
  rw [hl] at this
  have h4 : ((⟨g, 0, none⟩ : Addr).add (lo * k45.sz)) = ⟨g, lo * 4, none⟩ := by rw [add_at, Nat.zero_add]; rfl
  simp only [Option.map_some, h4] at this
  exact this
structure RemS (t CT : List S45) (c0 n : Nat) (A0 : Option Addr) (w : World) (B0 g b9 L M nk d : Nat) (wr : World) : Prop where
  bl : BxL A0 t.length c0 w B0 g b9 L M none [] CT wr
  hL : L = 2 * nk - 1
  hn : nk = 1 ∨ nk = 2 ∨ nk = 4 ∨ nk = 8
  le : L ≤ M
  sh : shrN CT 4 n = shrN CT d nk
  fu : nk < 2 ^ d
theorem RemS.stop {t CT : List S45} {c0 n : Nat} {A0 : Option Addr} {w : World} {B0 g b9 L M nk d : Nat} {wr : World} (h : RemS t CT c0 n A0 w B0 g b9 L M nk d wr) (hs : nk = 1 ∨ takenB ((CT.take L).drop nk) = true) : shrN CT 4 n = nk := by
  rw [h.sh]
  have hf := h.fu
  have hp : 0 < nk := by rcases h.hn with e | e | e | e <;> omega
  cases d with
  | zero => simp at hf; omega
  | succ d =>
    simp only [shrN]
    rw [if_neg]
    rintro ⟨h1, h2⟩
    rw [h.hL] at hs
    rcases hs with hs | hs
    · omega
    · rw [hs] at h2; cases h2
theorem RemS.next {t CT : List S45} {c0 n : Nat} {A0 : Option Addr} {w : World} {B0 g b9 L M nk d h2 L2 : Nat} {wr w7 : World} (h : RemS t CT c0 n A0 w B0 g b9 L M nk d wr) (hb : Below wr.heap.size wr w7) (hnk : nk = 2 * h2) (hs : takenB ((CT.take L).drop nk) = false) (hL2 : L2 = 2 * h2 - 1) (hB9 : w.heap.size + 1 + 1 ≤ b9) :
    RemS t CT c0 n A0 w B0 g b9 L2 M h2 (d - 1) (w7.setCell ⟨b9, 0, none⟩ (.slice (some ⟨g, 0, none⟩) L2 M)) := by
  have hf := h.fu
  have hl := h.hL
  have hle := h.le
  have hb0 := h.bl
  have hn := h.hn
  obtain ⟨cs, us, ht⟩ := hb0.tb
  have hbx7 := blk_below hb0.bx hb
  refine ⟨⟨⟨_, _, (TB.below ht hb).set_other hbx7 (by decide) hb0.gb 0 _⟩, ?_, (hb0.ab.below hb).set hB9 _ _, fun q hq => by simp at hq, (fun ad e => by cases e), hb0.gb, hb0.lo⟩, hL2, by omega, by omega, ?_, ?_⟩
  · have := blk_set hbx7 0 (.slice (some ⟨g, 0, none⟩) L2 M)
    simpa using this
  · cases d with
    | zero => simp at hf; omega
    | succ d =>
      rw [h.sh]
      simp only [shrN, Nat.add_sub_cancel]
      rw [if_pos ⟨by omega, by rw [← hl]; exact hs⟩]
      congr 1
      omega
  · cases d with
    | zero => simp at hf; omega
    | succ d =>
      rw [Nat.add_sub_cancel]
      rw [Nat.pow_succ] at hf
      omega
theorem set_un {t : List S45} {i : Nat} (h : ∀ x ∈ t, x.f3.length * 8 ≤ 140737488355328) : ∀ x ∈ t.set i z45, x.f3.length * 8 ≤ 140737488355328 := by
  intro x hx
  rcases List.mem_or_eq_of_mem_set hx with hx | rfl
  · exact h x hx
  · simp [z45]
theorem blankL_un : ∀ (xs : List Nat) (T : List S45), (∀ x ∈ T, x.f3.length * 8 ≤ 140737488355328) → ∀ x ∈ blankL T xs, x.f3.length * 8 ≤ 140737488355328 := by
  intro xs
  induction xs with
  | nil => intro T h; exact h
  | cons y ys ih => intro T h; exact ih _ (set_un h)
theorem twin_row (A : Option Addr) (M L nk : Nat) (l : List S45) (w : World) (hl : l.length = L) (HR : Kd.C k45 w A (L - 0) (l.drop 0)) (hb : L ≤ M ∧ M ≤ 15 ∧ 1 ≤ nk ∧ nk ≤ 8) (hL : L = 2 * nk - 1) (hu : ∀ x ∈ l, x.f3.length * 8 ≤ 140737488355328) :
    Calls Tryd.prog 30 #[.agg #[.slice A L M], .int .i64 nk] w fun e w' => ∃ g cs us, e = .returned (.agg #[.slice (some ⟨g, 0, none⟩) L L]) ∧ TB w' w.heap.size g cs us l ∧ Below w.heap.size w w' := by
  subst hl
  have h := twin_any A M l (nk : Int) l.length w ⟨HR⟩ ⟨by omega⟩ (by omega) (by omega) ⟨Nat.le_refl _⟩ ⟨hu⟩
  rw [Nat.sub_self, List.replicate_zero, List.append_nil] at h
  exact h
set_option maxRecDepth 100000 in
set_option maxHeartbeats 2000000 in
theorem rem_go (A0 : Option Addr) (c0 : Nat) (t : List S45) (m : Int) (i : Nat) (l : List Int) (w : World) (HR : Aside0 (Kd.C k45 w A0 t.length t)) (HC : Aside0 (t.length ≤ c0)) (HT : Aside0 (TabG w)) (FD : Aside0 (tree_Find.f 10 t m = some (i : Int))) (CK : Aside0 (tree_Check.f t = some 0)) (MB : Aside0 (tree_Members.f 10 t = some l)) (hl : ((l.length : Int) == 1) = false) (HOK : Aside0 (okB t = true)) (hi : i < lvsN t) :
    Calls Tryd.prog 14 #[.agg #[.slice A0 t.length c0], .int .i64 m] w (RemPost w (remT t (lvsN t) i)) := by
  have hu24 := Tryd.underlying24
  have hu45 := Tryd.underlying45
  have d1 : decide ((i : Int) < 0) = false := decide_eq_false (by omega)
  obtain ⟨hn, htl⟩ := (ok_len HOK.out).resolve_left (fun h => by omega)
  have LV := Aside0.mk (leaves_at t (by omega))
  generalize hN : lvsN t = n at *
  have hn8 : (n : Int) ≤ 8 := by omega
  have HN := Aside0.mk hn
  have HTL := Aside0.mk htl
  obtain ⟨M, hM⟩ : ∃ M, M = t.length := ⟨_, rfl⟩
  have hkM : 2 * i < M := by omega
  have HMN : Aside0 (2 * n - 1 = M) := ⟨by omega⟩
  have HM2 := Aside0.mk hM
  have HUN : Aside0 (∀ x ∈ t, x.f3.length * 8 ≤ 140737488355328) := ⟨un_bound HOK.out⟩
  have hM15 : (M : Int) ≤ 15 := by omega
  have hn1 : 1 ≤ n := by omega
  have h2k : (2 * (i : Int)).toNat = 2 * i := by omega
  have HIN := Aside0.mk hi
  clear hn htl hN hM
  go_enter Tryd.func14, Tryd.ntmps14
  go_wp2_with (first | (go_at_call 15; refine (tree_Find.calls 10 A0 c0 t _ _ _ (Kd.C_alloc (Kd.C_alloc HR.out _) _) HC.out ((HT.out.alloc _).alloc _) FD.out).mono ?_; rintro e w1 ⟨rfl, hb⟩; have AB := Aside0.mk (BxB.start hb); obtain ⟨x0, x1, x2⟩ := AB.out.cells; clear hb) | (go_at_call 10; refine (tree_Check.calls A0 c0 t _ _ (Kd.C_below HR.out AB.out.bel) HC.out (TabG.below HT.out AB.out.bel) CK.out).mono ?_; rintro e w2 ⟨rfl, hb⟩; have AB2 := Aside0.mk (AB.out.below hb); clear x0 x1 x2; obtain ⟨x0, x1, x2⟩ := AB2.out.cells; clear hb) | (go_at_call 12; refine (tree_Members.calls 10 A0 c0 t _ _ (Kd.C_below HR.out AB2.out.bel) HC.out (TabG.below HT.out AB2.out.bel) MB.out).mono ?_; rintro e w3 ⟨v3, rfl, ho, hb⟩; obtain ⟨A3, c3, rfl⟩ := Kd.R_slice ho; have AB3 := Aside0.mk (AB2.out.below hb); clear x0 x1 x2; obtain ⟨x0, x1, x2⟩ := AB3.out.cells; clear hb ho) | (go_at_call 26; refine (tree_leaves.calls A0 c0 t _ _ (Kd.C_below HR.out AB3.out.bel) HC.out LV.out).mono ?_; rintro e w4 ⟨rfl, hb⟩; have AB4 := Aside0.mk (AB3.out.below hb); clear x0 x1 x2; obtain ⟨x0, x1, x2⟩ := AB4.out.cells; clear hb) | (go_at_call 30; refine (twin_any A0 c0 t _ M _ ⟨Kd.C_below HR.out AB4.out.bel⟩ ⟨?tM⟩ ?t1 ?t2 ⟨?tL⟩ ⟨?tU⟩).mono ?_; (case tM => have := HMN.out; omega); (case t1 => omega); (case t2 => omega); (case tL => have := HM2.out; omega); (case tU => exact HUN.out); rintro e w5 ⟨g, cs, us, rfl, hTB, hb⟩; rw [HM2.out, Nat.sub_self, List.replicate_zero, List.append_nil] at hTB; have AB5 := Aside0.mk (AB4.out.below hb); have HTB := Aside0.mk hTB; obtain ⟨u0, hu0, z0, z1, z2, z3, -⟩ := hTB.cells (2 * i) (by have := HM2.out; omega); have f0 := blk_frozen hTB.blk (2 * i * 4); have f1 := blk_frozen hTB.blk (2 * i * 4 + 1); have f2 := blk_frozen hTB.blk (2 * i * 4 + 2); have f3 := blk_frozen hTB.blk (2 * i * 4 + 3); have HGL := Aside0.mk hTB.lt; have HGB : Aside0 (w.heap.size ≤ g) := ⟨Nat.le_trans AB4.out.bel.size hTB.hb⟩; have HLO : Aside0 (w.heap.size + 1 + 1 ≤ w4.heap.size) := ⟨AB4.out.sz⟩; have s1 : w.heap.size + 1 < w5.heap.size := (by have := AB5.out.sz; omega); have s3 := HGL.out; clear x0 x1 x2; obtain ⟨x0, x1, x2⟩ := AB5.out.cells; clear hb hTB hu0) | (go_at_call 31; refine (direct_new n i HN.out HIN.out _ ⟨TabG.below HT.out (below_node AB5.out.bel HGB.out _ _ _ _ _ _)⟩).mono ?_; rintro e w6 ⟨Ad, cd, rfl, hcd, hC, hAb, hb⟩; have HL := Aside0.mk (BxL.start (j := 2 * i) AB5.out HTB.out HM2.out.symm hkM HLO.out z45 rfl hC hAb hb); have HCD := Aside0.mk hcd; clear hC hAb hb hcd))
  have hdl3 := dirL_len n i
  have HDB : Aside0 (∀ q, q < (dirL n i).length → (dirL n i).getD q 0 < M) := ⟨fun q hq => by have := (cop_at n i HN.out HIN.out).2.2.2 ((dirL n i).getD q 0) (by rw [List.getD_eq_getElem?_getD, List.getElem?_eq_getElem hq]; exact List.getElem_mem _); have := HMN.out; omega⟩
  generalize hdl : dirL n i = dl at *
  have HDL := Aside0.mk hdl
  generalize hT0 : t.set (2 * i) z45 = T0 at HL
  have HT0 := Aside0.mk hT0
  have HT0L : Aside0 (T0.length = M) := ⟨by rw [← hT0, List.length_set]; exact HM2.out.symm⟩
  clear hdl hT0 x0 x1 x2 z0 z1 z2 z3 f0 f1 f2 f3 s1 s3
  have HB9X : Aside0 (w.heap.size + 1 + 1 ≤ w5.heap.size) := ⟨AB5.out.sz⟩
  generalize hb9 : w5.heap.size = b9 at *
  have hm3 : (dl.length : Int) ≤ 3 := by omega
  go_loopw [45] (fun v45 wr => ∃ j : Nat, j ≤ dl.length ∧ v45 = .int .i64 j ∧ Aside0 (BxL A0 t.length c0 w w4.heap.size g b9 M M Ad dl (blankL T0 (dl.take j)) wr)) (fun v45 _ => dl.length - (intOf v45).toNat)
  case atStart => exact ⟨0, Nat.zero_le _, rfl, HL⟩
  case round =>
    clear HL
    obtain ⟨j, hj, rfl, HL⟩ := hrel
    obtain ⟨cs2, us2, htb⟩ := HL.out.tb
    have hT : (blankL T0 (dl.take j)).length = M := by rw [blankL_len]; exact HT0L.out
    by_cases hlt2 : j < dl.length
    · obtain ⟨ad2, rfl, hdc⟩ := HL.out.dc j hlt2
      have hxM := HDB.out j hlt2
      have HNT : Aside0 (blankL T0 (dl.take (j + 1)) = (blankL T0 (dl.take j)).set (dl.getD j 0) z45) := ⟨blankL_take hlt2⟩
      generalize hx : dl.getD j 0 = x at *
      generalize hTT : blankL T0 (dl.take j) = T at *
      obtain ⟨u, hu, z0, z1, z2, z3, -⟩ := htb.cells x (by omega)
      have hbx := blk_cell HL.out.bx 0
      have f0 := blk_frozen htb.blk (x * 4)
      have f1 := blk_frozen htb.blk (x * 4 + 1)
      have f2 := blk_frozen htb.blk (x * 4 + 2)
      have f3 := blk_frozen htb.blk (x * 4 + 3)
      have HXT := Aside0.mk (show x < T.length by omega)
      have hxl : (x : Int) < (M : Int) := by omega
      clear htb hu hx hTT hT
      go_wp2
      go_roundw
      case rel => exact ⟨j + 1, by omega, by go_num, ⟨by rw [HNT.out]; exact HL.out.node HXT.out z45 rfl⟩⟩
      case measure => simp [intOf]; omega
    · obtain rfl : j = dl.length := by omega
      rw [List.take_length] at HL hT
      have HB9' : Aside0 (w.heap.size + 1 + 1 ≤ b9) := HB9X
      go_wp2
      have HCTL : Aside0 ((blankL T0 dl).length = M) := ⟨hT⟩
      have HUN2 : Aside0 (∀ x ∈ blankL T0 dl, x.f3.length * 8 ≤ 140737488355328) := ⟨blankL_un _ _ (by rw [← HT0.out]; exact set_un HUN.out)⟩
      have HCT : Aside0 (blankL T0 dl = cutT t n i) := ⟨by unfold cutT; rw [HT0.out, HDL.out]⟩
      have HB9 : Aside0 (w.heap.size + 1 + 1 ≤ b9) := HB9'
      have HS0 : Aside0 (RemS t (blankL T0 dl) c0 n A0 w w4.heap.size g b9 M M n 4 wr) := ⟨⟨⟨HL.out.tb, HL.out.bx, HL.out.ab, fun q hq => by simp at hq, (fun ad e => by cases e), HL.out.gb, HL.out.lo⟩, by have := HMN.out; omega, HN.out, Nat.le_refl _, rfl, by rcases HN.out with e | e | e | e <;> rw [e] <;> decide⟩⟩
      generalize blankL T0 dl = CT at *
      clear HL hT htb
      go_loopw [7] (fun v7 wr => ∃ nk L d : Nat, v7 = .int .i64 nk ∧ nk ≤ 8 ∧ 1 ≤ nk ∧ Aside0 (RemS t CT c0 n A0 w w4.heap.size g b9 L M nk d wr)) (fun v7 _ => (intOf v7).toNat)
      case atStart => exact ⟨n, M, 4, rfl, by omega, by omega, HS0⟩
      case round =>
        clear HS0
        obtain ⟨nk, L, d, rfl, hnk8, hnk1, HS⟩ := hrel
        have hbx := blk_cell HS.out.bl.bx 0
        have hLI : (L : Int) = 2 * (nk : Int) - 1 := by have := HS.out.hL; omega
        have hLM := HS.out.le
        have HL2 : Aside0 (L = 2 * nk - 1) := ⟨HS.out.hL⟩
        have HLM : Aside0 (L ≤ M ∧ M ≤ 15 ∧ 1 ≤ nk ∧ nk ≤ 8) := ⟨⟨HS.out.le, by omega, hnk1, hnk8⟩⟩
        have HCL : Aside0 ((CT.take L).length = L) := ⟨by rw [List.length_take, HCTL.out]; have := HLM.out.1; omega⟩
        have HUC : Aside0 (∀ x ∈ CT.take L, x.f3.length * 8 ≤ 140737488355328) := ⟨fun x hx => HUN2.out x (List.mem_of_mem_take hx)⟩
        by_cases hn1 : nk = 1
        · have d2 : decide (1 < (nk : Int)) = false := decide_eq_false (by omega)
          have HST := Aside0.mk (HS.out.stop (.inl hn1))
          have ABX := Aside0.mk HS.out.bl.ab
          obtain ⟨cs3, us3, htb⟩ := HS.out.bl.tb
          have HCF := Aside0.mk (TB.mid (lo := 0) (hi := L) htb HCTL.out (by omega) (by omega) hLM (by omega))
          clear hn1 hLI htb
          go_wp2_with ((go_at_call 30; refine (twin_row (some ⟨g, 0, none⟩) M L nk (CT.take L) _ HCL.out HCF.out HLM.out HL2.out HUC.out).mono ?_; rintro e w8 ⟨g2, cs4, us4, rfl, hTB, hb⟩; have HT8 := Aside0.mk hTB; have AB8 := Aside0.mk (ABX.out.below hb); have HG8 := Aside0.mk (ABX.out.bel.size); obtain ⟨x0, x1, x2⟩ := AB8.out.cells; clear hb hTB))
          have hq := (AB8.out.res (.slice (some ⟨g2, 0, none⟩) L L)).1
          have hgw : g2 ≠ w.heap.size + 1 := by have := HT8.out.hb; have := ABX.out.sz; omega
          refine bodyPost_ret (v := .tuple #[.agg #[.slice (some ⟨g2, 0, none⟩) L L], .int .i64 0]) (by simp [results, Tryd.results14, go_sem, hq]) rfl ⟨_, rfl, ?_, (AB8.out.res _).2⟩
          have hfin := (HT8.out.set_other AB8.out.b2 (by decide) hgw 0 (.slice (some ⟨g2, 0, none⟩) L L)).S (by rw [HCL.out]; omega)
          rw [HCL.out] at hfin
          have hlow := Kd.S_lower hfin HG8.out
          unfold remT
          rw [← HCT.out, HST.out, ← HL2.out]
          exact hlow
        · have d2 : decide (1 < (nk : Int)) = true := decide_eq_true (by omega)
          obtain ⟨h2, hh2⟩ : ∃ h2, nk = 2 * h2 := ⟨nk / 2, by have := HS.out.hn; omega⟩
          have hdv : (nk : Int) / 2 = (h2 : Int) := by omega
          obtain ⟨cs3, us3, htb⟩ := HS.out.bl.tb
          have HCM := Aside0.mk (TB.mid (lo := nk) (hi := L) htb HCTL.out (by omega) (by omega) hLM (by omega))
          have HLL : Aside0 (((CT.take L).drop nk).length = L - nk) := ⟨by rw [List.length_drop, List.length_take, HCTL.out]; omega⟩
          have HCF0 := Aside0.mk (TB.mid (lo := 0) (hi := L) htb HCTL.out (by omega) (by omega) hLM (by omega))
          have hnM : ¬ (M = nk) := by omega
          have hnL : (nk : Int) ≤ (L : Int) := by omega
          have hfz := blk_frozen HS.out.bl.bx 0
          clear htb
          have HLI := Aside0.mk hLI
          have HHH := Aside0.mk hh2
          clear hLI hh2 hn1
          generalize htk : takenB ((CT.take L).drop nk) = b at *
          have HTK := Aside0.mk htk
          clear htk
          cases b with
          | true =>
            have HST := Aside0.mk (HS.out.stop (.inr HTK.out))
            go_wp2_with (go_at_call 34; refine (taken_row (some ⟨g, nk * 4, none⟩) (M - nk) (L - nk) ((CT.take L).drop nk) _ HLL.out HCM.out (by omega) (by omega)).mono ?_; rw [HTK.out]; rintro e w7 ⟨rfl, hb⟩; have hbx7 := blk_cell (blk_below HS.out.bl.bx hb) 0; have ABX := Aside0.mk (HS.out.bl.ab.below hb); have HCF := Aside0.mk (Kd.C_below HCF0.out hb); clear hb)
            go_wp2_with ((go_at_call 30; refine (twin_row (some ⟨g, 0, none⟩) M L nk (CT.take L) _ HCL.out HCF.out HLM.out HL2.out HUC.out).mono ?_; rintro e w8 ⟨g2, cs4, us4, rfl, hTB, hb⟩; have HT8 := Aside0.mk hTB; have AB8 := Aside0.mk (ABX.out.below hb); have HG8 := Aside0.mk (ABX.out.bel.size); obtain ⟨x0, x1, x2⟩ := AB8.out.cells; clear hb hTB))
            have hq := (AB8.out.res (.slice (some ⟨g2, 0, none⟩) L L)).1
            have hgw : g2 ≠ w.heap.size + 1 := by have := HT8.out.hb; have := ABX.out.sz; omega
            refine bodyPost_ret (v := .tuple #[.agg #[.slice (some ⟨g2, 0, none⟩) L L], .int .i64 0]) (by simp [results, Tryd.results14, go_sem, hq]) rfl ⟨_, rfl, ?_, (AB8.out.res _).2⟩
            have hfin := (HT8.out.set_other AB8.out.b2 (by decide) hgw 0 (.slice (some ⟨g2, 0, none⟩) L L)).S (by rw [HCL.out]; omega)
            rw [HCL.out] at hfin
            have hlow := Kd.S_lower hfin HG8.out
            unfold remT
            rw [← HCT.out, HST.out, ← HL2.out]
            exact hlow
          | false =>
            obtain ⟨L2, hL2⟩ : ∃ L2, L2 = 2 * h2 - 1 := ⟨_, rfl⟩
            obtain ⟨i0, hi0, -⟩ := Option.map_eq_some_iff.1 nodeInfo
            have hcut := cut_to (P := Tryd.prog) 22 45 .i64 Tryd.underlying22 hi0 (some ⟨g, 0, none⟩) L M (2 * (h2 : Int) - 1) (by have := HHH.out; omega) (by have := HHH.out; have := HL2.out; omega) hLM
            rw [show (2 * (h2 : Int) - 1).toNat = L2 by omega] at hcut
            have HLL2 := Aside0.mk hL2
            have hh21 : 1 ≤ h2 := by have := HHH.out; omega
            have hh22 : h2 < nk := by have := HHH.out; omega
            clear hL2 hi0
            go_wp2_with (go_at_call 34; refine (taken_row (some ⟨g, nk * 4, none⟩) (M - nk) (L - nk) ((CT.take L).drop nk) _ HLL.out HCM.out (by omega) (by omega)).mono ?_; rw [HTK.out]; rintro e w7 ⟨rfl, hb⟩; have hbx7 := blk_cell (blk_below HS.out.bl.bx hb) 0; have hfz7 := blk_frozen (blk_below HS.out.bl.bx hb) 0; have HB7 := Aside0.mk hb; clear hb)
            go_roundw
            case rel => exact ⟨h2, L2, d - 1, rfl, by omega, by omega, ⟨HS.out.next HB7.out HHH.out HTK.out HLL2.out HB9.out⟩⟩
            case measure => simp [intOf]; omega
def tree_Remove.f (t : List S45) (m : Int) : Option (List S45 × Int) :=
  if t.all (fun n => wfI n.f1) = true then
    some (if okB t = true then
      (if findT t m < 0 then ([], 7) else if (memT t).length = 1 then ([], 9) else (remT t (lvsN t) (findT t m).toNat, 0))
      else ([], 1))
  else none
theorem rem_err {w : World} {x : Int} {e : Ending} {w' : World} (h : RemErr w x e w') : ∃ v0_ : Value, e = .returned (.tuple #[.agg #[v0_], .int .i64 x]) ∧ Kd.S k45 45 w' w.heap.size (fun _ => True) v0_ [] ∧ Below w.heap.size w w' := ⟨_, h.1, Kd.S_nil _ _ _ _ _, h.2⟩
theorem tree_Remove.calls (A0_0 : Option Addr) (c0_0 : Nat) (l0_0 : List (S45)) (a1 : Int) (r1 : List (S45)) (r2 : Int) (w : World) (hr0_0 : Kd.C k45 w A0_0 l0_0.length l0_0) (hc0_0 : l0_0.length ≤ c0_0) (hT : TabG w) (h : tree_Remove.f l0_0 a1 = some (r1, r2)) :
    Calls Tryd.prog 14 #[.agg #[.slice A0_0 l0_0.length c0_0], .int .i64 a1] w fun e w' => ∃ v0_ : Value, e = .returned (.tuple #[.agg #[v0_], .int .i64 r2]) ∧ Kd.S k45 45 w' w.heap.size (fun _ => True) v0_ r1 ∧ Below w.heap.size w w' := by
  unfold tree_Remove.f at h
  by_cases hw : l0_0.all (fun n => wfI n.f1) = true
  · rw [if_pos hw] at h
    have hck : tree_Check.f l0_0 = some (if okB l0_0 = true then 0 else 1) := if_pos hw
    have hfd := find_at hw a1
    have hmb := mem_at hw
    have hsg := findT_sign l0_0 a1
    have h := Option.some.inj h
    by_cases hok : okB l0_0 = true
    · rw [if_pos hok] at hck h
      by_cases hf : findT l0_0 a1 < 0
      · rw [if_pos hf] at h
        injection h with e1 e2
        subst e1 e2
        rw [show findT l0_0 a1 = -1 by omega] at hfd
        exact (rem_gone A0_0 c0_0 l0_0 a1 w ⟨hr0_0⟩ ⟨hc0_0⟩ ⟨hT⟩ ⟨hfd⟩ ⟨hck⟩).mono (fun _ _ h => rem_err h)
      · rw [if_neg hf] at h
        obtain ⟨i, hi⟩ : ∃ i : Nat, findT l0_0 a1 = (i : Int) := ⟨(findT l0_0 a1).toNat, by omega⟩
        rw [hi] at hfd h hsg
        rw [Int.toNat_natCast] at h
        by_cases h1 : (memT l0_0).length = 1
        · rw [if_pos h1] at h
          injection h with e1 e2
          subst e1 e2
          exact (rem_last A0_0 c0_0 l0_0 a1 i (memT l0_0) w ⟨hr0_0⟩ ⟨hc0_0⟩ ⟨hT⟩ ⟨hfd⟩ ⟨hck⟩ ⟨hmb⟩ ⟨h1⟩).mono (fun _ _ h => rem_err h)
        · rw [if_neg h1] at h
          injection h with e1 e2
          subst e1 e2
          exact rem_go A0_0 c0_0 l0_0 a1 i (memT l0_0) w ⟨hr0_0⟩ ⟨hc0_0⟩ ⟨hT⟩ ⟨hfd⟩ ⟨hck⟩ ⟨hmb⟩ (beq_eq_false_iff_ne.2 (by omega)) ⟨hok⟩ (by omega)
    · rw [if_neg hok] at hck h
      injection h with e1 e2
      subst e1 e2
      have : findT l0_0 a1 = -1 := by unfold findT; rw [if_neg hok]
      rw [this] at hfd
      exact (rem_odd A0_0 c0_0 l0_0 a1 w ⟨hr0_0⟩ ⟨hc0_0⟩ ⟨hT⟩ ⟨hfd⟩ ⟨hck⟩).mono (fun _ _ h => rem_err h)
  · rw [if_neg hw] at h; cases h
end
end Go.Proofs.YtfgalpfiggnkpaaDoor.PT
