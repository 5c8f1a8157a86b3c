/- What treeFresh_card uses of the printed words and contracts. -/
import Derived.Test.YtfgalpfiggnkpaaDoorRows
import Derived.Test.YtfgalpfiggnkpaaDoorFrPTx0
import Derived.Test.YtfgalpfiggnkpaaDoorFrPure0
import Derived.WalkKit
import Derived.ProofKit
import Derived.OpenShut
import Derived.ChangeOld
import Derived.Below
import Derived.SizedLaws
import Derived.LaidMore
import Derived.Stop.Joined
import Derived.Lib.LaidTab
import Derived.Deep.Slices
import Derived.Deep.Fields
import Derived.ChangeSame
set_option linter.unusedSimpArgs false
namespace Go.Proofs.YtfgalpfiggnkpaaDoor.PT
open Go.ChangeShapes Go.WideShapes Go.ChangeAt Go.RowKit Go.Deep Go.Proofs.YtfgalpfiggnkpaaDoorW.PrintWords Go.Proofs.YtfgalpfiggnkpaaDoorW.PrintLast Go.Proofs.YtfgalpfiggnkpaaDoorW.PrintMore
set_option linter.unusedVariables false
section
variable {H : Type} {enc : TypeId × Value → H} {P : Program} {w : World} {base : Nat} {spare : Nat → Bool} {held : Bool}
theorem open_slice_fields {t e : TypeId} {fs : Array Field} {fuel : Nat} {cs : List Value} {x : DataW H × List MemPlace} (ht : P.underlying t = some (.slice e)) (he : P.underlying e = some (.struct fs))
    (hone : oneCellFields P fs = true) (hC : P.cellsOf e = fs.size) (h : DataW.trod enc P w base spare held fuel t cs = some x) :
    (cs = [.slice none 0 0] ∧ x = (.nil, [])) ∨
    ∃ (a : Addr) (len cap m : Nat) (D : Nat → DataW H) (Pl : Nat → List MemPlace), cs = [.slice (some a) len cap] ∧ base ≤ a.block ∧ len ≤ cap ∧ cap ≤ maxLen ∧ m = (if spare a.block then cap else len) ∧
      x = (.slice ((List.range len).map D) ((List.range (m - len)).map fun j => D (len + j)), MemPlace.row a (m * fs.size) ++ (List.range m).flatMap Pl) ∧
      ∀ i, i < m → ∃ (ys : List (DataW H × List MemPlace)) (n : Nat), D i = .agg (ys.map (·.1)) ∧ Pl i = ys.flatMap (·.2) ∧ ys.length = fs.size ∧
        ∀ (j : Nat) (f : Field), fs[j]? = some f → ∃ (v : Value) (y : DataW H × List MemPlace), w.cell? (a.add (i * fs.size + j)) = some v ∧ ys[j]? = some y ∧ DataW.trod enc P w base spare held n f.type [v] = some y := by
  rcases open_slice ht h with h0 | ⟨a, len, cap, m, n, D, Pl, hcs, hb, hl, hm, hmm, hx, hi⟩
  · exact .inl h0
  · refine .inr ⟨a, len, cap, m, D, Pl, hcs, hb, hl, hm, hmm, by rw [hC] at hx; exact hx, fun i him => ?_⟩
    obtain ⟨cs', hc, ht'⟩ := hi i him
    rw [hC] at hc
    obtain ⟨ys, n', hn', hy, hlen, hyl, hf⟩ := DataW.trod_struct he ht'
    obtain ⟨_, hcl, hat⟩ := World.cells?_some hc
    simp only [Prod.mk.injEq] at hy
    refine ⟨ys, n', hy.1, hy.2, hyl, fun j f hj => ?_⟩
    obtain ⟨ho, hk⟩ := hone_of hone j f hj
    have hjl : j < fs.size := (Array.getElem?_eq_some_iff.1 hj).1
    have hcell := hat j hjl
    have hv : cs'[j]? = some (cs'[j]'(by omega)) := List.getElem?_eq_getElem (by omega)
    have h1 := hf j f hj
    rw [ho, hk] at h1
    have hone' : (cs'.drop j).take 1 = [cs'[j]'(by omega)] := by
      rw [List.drop_eq_getElem_cons (by omega)]
      rfl
    rw [hone'] at h1
    have hys : ys[j]? = some (ys[j]'(by omega)) := List.getElem?_eq_getElem (by omega)
    refine ⟨_, _, ?_, hys, h1.trans hys⟩
    rw [← Go.Deep.add_add, hcell, hv]
theorem weights_all {t : TypeId} : ∀ {l : List (DataW H)} {d : DataW H}, d ∈ l → ∀ n ∈ d.weights P t, n ∈ DataW.weightsAll P t l := by
  intro l
  induction l with
  | nil => intro d hd; cases hd
  | cons x xs ih =>
    intro d hd n hn
    unfold DataW.weightsAll
    rcases List.mem_cons.1 hd with rfl | hd
    · exact List.mem_append.2 (.inl hn)
    · exact List.mem_append.2 (.inr (ih hd n hn))
end
theorem list_of {α : Type} (z : α) (n : Nat) (Q : Nat → α → Prop) (h : ∀ i, i < n → ∃ s, Q i s) : ∃ l : List α, l.length = n ∧ ∀ j s, l[j]? = some s → Q j s := by
  induction n with
  | zero => exact ⟨[], rfl, fun j s hj => by simp at hj⟩
  | succ n ih =>
    obtain ⟨l, hl, hq⟩ := ih (fun i hi => h i (by omega))
    obtain ⟨s, hs⟩ := h n (by omega)
    refine ⟨l ++ [s], by rw [List.length_append, hl]; rfl, fun j s' hj => ?_⟩
    by_cases e : j < n
    · rw [List.getElem?_append_left (by omega)] at hj
      exact hq j s' hj
    · have hjl := (List.getElem?_eq_some_iff.1 hj).1
      rw [List.length_append] at hjl
      have : j = n := by simp at hjl; omega
      subst this
      rw [List.getElem?_append_right (by omega), hl, Nat.sub_self] at hj
      simp at hj
      rw [← hj]
      exact hs
def NodeAt (W : World) (a : Addr) (i : Nat) (s : S45) : Prop :=
  ∃ (A3 : Option Addr) (c3 : Nat), W.cell? (a.add (i * 4)) = some (.int .i64 s.f0) ∧ W.cell? (a.add (i * 4 + 1)) = some (.int .i64 s.f1) ∧ W.cell? (a.add (i * 4 + 2)) = some (.int .i64 s.f2) ∧ W.cell? (a.add (i * 4 + 3)) = some (.slice A3 s.f3.length c3) ∧
    s.f3.length ≤ c3 ∧ Kd.C (Kd.int .i64) W A3 s.f3.length s.f3 ∧ wfI s.f1 = true ∧ s.f3.length * 8 ≤ 140737488351232
theorem oneTree : oneCellFields Tryd.prog #[{ name := "Pub", type := 3, offset := 0, embedded := false, tag := "", pkgPath := "", byteOffset := 0 }, { name := "Member", type := 3, offset := 1, embedded := false, tag := "", pkgPath := "", byteOffset := 8 }, { name := "Epoch", type := 3, offset := 2, embedded := false, tag := "", pkgPath := "", byteOffset := 16 }, { name := "Unmerged", type := 32, offset := 3, embedded := false, tag := "", pkgPath := "", byteOffset := 24 }] = true := by kernel_rfl
theorem bytesInt : Tryd.prog.bytesOf 3 = 8 := by kernel_rfl
theorem bytesNode : Tryd.prog.bytesOf 45 = 48 := by kernel_rfl
theorem cellsNode : Tryd.prog.cellsOf 45 = 4 := by kernel_rfl
theorem cellsTree : Tryd.prog.cellsOf 24 = 1 := by kernel_rfl
theorem cellsInt : Tryd.prog.cellsOf 3 = 1 := by kernel_rfl
theorem C_ints {W : World} {a : Addr} {len : Nat} {zs : List Int} (hl : len ≤ zs.length) (hm : len ≤ 9223372036854775807) (hc : ∀ i, i < zs.length → W.cell? (a.add i) = some (.int .i64 (zs.getD i 0))) : Kd.C (Kd.int .i64) W (some a) (zs.take len).length (zs.take len) := by
  refine ⟨rfl, by rw [List.length_take]; omega, fun _ => ⟨a, rfl, fun j p hj => ⟨[.int .i64 p], rfl, rfl, fun i u hi => ?_⟩⟩⟩
  have hjl := (List.getElem?_eq_some_iff.1 hj).1
  rw [List.length_take] at hjl
  have hz : zs[j]? = some p := by rw [List.getElem?_take, if_pos (by omega)] at hj; exact hj
  have hi0 : i = 0 := by
    have := (List.getElem?_eq_some_iff.1 hi).1
    simpa using this
  subst hi0
  have hu : u = .int .i64 p := by simpa using hi.symm
  have := hc j (by omega)
  rw [List.getD_eq_getElem?_getD, hz] at this
  rw [hu]
  show W.cell? (a.add (j * 1 + 0)) = _
  rw [show j * 1 + 0 = j by omega]
  exact this
theorem open_nodes {H : Type} {enc : TypeId × Value → H} {W : World} {fuel : Nat} {cs : List Value} {x : DataW H × List MemPlace} (h : DataW.trod enc Tryd.prog W 0 (fun _ => true) true fuel 22 cs = some x) (hw : ∀ n ∈ x.1.weights Tryd.prog 22, n ≤ reachBytes) :
    ∃ (a : Option Addr) (cap : Nat) (l : List S45), cs = [.slice a l.length cap] ∧ l.length ≤ cap ∧ Kd.C k45 W a l.length l ∧ Came l := by
  rcases open_slice_fields Tryd.underlying22 Tryd.underlying45 oneTree cellsNode h with ⟨rfl, _⟩ | ⟨a, len, cap, m, D, Pl, rfl, hb, hl, hm, hmm, rfl, hi⟩
  · exact ⟨none, 0, [], rfl, Nat.le_refl _, Kd.C_nil _ _, ⟨by simp, (fun x hx => by cases hx), rfl⟩⟩
  · obtain rfl : m = cap := by simpa using hmm
    have hwn : ∀ i, i < len → ∀ n ∈ (D i).weights Tryd.prog 45, n ≤ reachBytes := by
      intro i hil n hn
      refine hw n ?_
      simp only [DataW.weights, Tryd.underlying22]
      refine List.mem_cons_of_mem _ (List.mem_append.2 (.inl (weights_all (d := D i) (List.mem_map.2 ⟨i, List.mem_range.2 hil, rfl⟩) n hn)))
    have hnode : ∀ i, i < len → ∃ s : S45, NodeAt W a i s := by
      intro i hil
      obtain ⟨ys, n, hD, hPl, hyl, hf⟩ := hi i (by omega)
      obtain ⟨v0, y0, c0, e0, t0⟩ := hf 0 _ rfl
      obtain ⟨v1, y1, c1, e1, t1⟩ := hf 1 _ rfl
      obtain ⟨v2, y2, c2, e2, t2⟩ := hf 2 _ rfl
      obtain ⟨v3, y3, c3, e3, t3⟩ := hf 3 _ rfl
      obtain ⟨p0, g0, -, -⟩ := DataW.trod_int Tryd.underlying3 t0
      obtain ⟨p1, g1, -, wf1⟩ := DataW.trod_int Tryd.underlying3 t1
      obtain ⟨p2, g2, -, -⟩ := DataW.trod_int Tryd.underlying3 t2
      obtain rfl : v0 = .int .i64 p0 := by simpa using g0
      obtain rfl : v1 = .int .i64 p1 := by simpa using g1
      obtain rfl : v2 = .int .i64 p2 := by simpa using g2
      have hw3 : ∀ n ∈ y3.1.weights Tryd.prog 32, n ≤ reachBytes := by
        intro n hn
        refine hwn i hil n ?_
        rw [hD]
        simp only [DataW.weights, Tryd.underlying45]
        exact DataW.weights_mem_each (j := 3) (t := 32) (d := y3.1) rfl (by rw [List.getElem?_map, e3]; rfl) n hn
      rcases open_ints Tryd.underlying32 Tryd.underlying3 cellsInt t3 with ⟨hv, _⟩ | ⟨a3, l3, cap3, zs, hv, _, hl3, hm3, hz3, rfl, hc3, _⟩
      · obtain rfl : v3 = .slice none 0 0 := by simpa using hv
        exact ⟨⟨p0, p1, p2, []⟩, none, 0, c0, c1, c2, c3, Nat.le_refl _, Kd.C_nil _ _, wf1, by simp⟩
      · obtain rfl : v3 = .slice (some a3) l3 cap3 := by simpa using hv
        obtain hz : zs.length = cap3 := by simpa using hz3
        have hlt : (zs.take l3).length = l3 := by rw [List.length_take]; omega
        have hw4 := hw3 ((l3 + (cap3 - l3)) * 8) (by
          simp only [DataW.weights, Tryd.underlying32]
          refine List.mem_cons.2 (.inl ?_)
          rw [bytesInt]
          simp [lits, hz]
          omega)
        unfold maxLen at hm3
        unfold reachBytes at hw4
        refine ⟨⟨p0, p1, p2, zs.take l3⟩, some a3, cap3, c0, c1, c2, ?_, ?_, C_ints (by omega) (by omega) hc3, wf1, ?_⟩
        · show W.cell? (a.add (i * 4 + 3)) = some (.slice (some a3) (zs.take l3).length cap3)
          rw [hlt]; exact c3
        · show (zs.take l3).length ≤ cap3
          rw [hlt]; exact hl3
        · show (zs.take l3).length * 8 ≤ _
          rw [hlt]; omega
    obtain ⟨l, hll, hq⟩ := list_of z45 len (NodeAt W a) hnode
    have hwl := hw ((len + (m - len)) * 48) (by
      simp only [DataW.weights, Tryd.underlying22]
      refine List.mem_cons.2 (.inl ?_)
      rw [bytesNode]
      simp)
    unfold reachBytes at hwl
    unfold maxLen at hm
    subst hll
    refine ⟨some a, m, l, rfl, hl, ⟨rfl, by omega, fun _ => ⟨a, rfl, fun j p hj => ?_⟩⟩, ⟨by omega, fun s hs => ?_, ?_⟩⟩
    · obtain ⟨A3, c3, h0, h1, h2, h3, h4, h5, -, -⟩ := hq j p hj
      refine ⟨_, rfl, k45_mk W p h4 h5, fun i u hi => ?_⟩
      match i, hi with
      | 0, hi => simp at hi; rw [← hi]; exact h0
      | 1, hi => simp at hi; rw [← hi]; exact h1
      | 2, hi => simp at hi; rw [← hi]; exact h2
      | 3, hi => simp at hi; rw [← hi]; exact h3
      | i + 4, hi => simp at hi
    · obtain ⟨j, hj, rfl⟩ := List.getElem_of_mem hs
      obtain ⟨A3, c3, -, -, -, -, -, -, -, h8⟩ := hq j _ (List.getElem?_eq_getElem hj)
      omega
    · refine List.all_eq_true.2 (fun s hs => ?_)
      obtain ⟨j, hj, rfl⟩ := List.getElem_of_mem hs
      obtain ⟨A3, c3, -, -, -, -, -, -, h7, -⟩ := hq j _ (List.getElem?_eq_getElem hj)
      exact h7
theorem open_tree {H : Type} {enc : TypeId × Value → H} {W : World} {b0 : Nat} {v : Value} {d : DataW H} {p : List MemPlace} (hval : Value.okWide Tryd.prog W .any b0 24 v) (h : DataW.Trod enc Tryd.prog W 0 (fun _ => true) true 24 v d p) (hw : ∀ n ∈ d.weights Tryd.prog 24, n ≤ reachBytes) :
    ∃ (a : Option Addr) (cap : Nat) (l : List S45), v = .agg #[.slice a l.length cap] ∧ l.length ≤ cap ∧ Kd.C k45 W a l.length l ∧ Came l := by
  obtain ⟨cs, rfl, hsz⟩ := okWide_struct Tryd.underlying24 hval
  rw [cellsTree] at hsz
  obtain ⟨fuel, hf⟩ := h
  obtain ⟨y0, n, hx, _, ht⟩ := trod_struct1 Tryd.underlying24 hf
  obtain ⟨lc⟩ := cs
  match lc, hsz with
  | [c], _ =>
    have hc1 : Tryd.prog.cellsOf 22 = 1 := by kernel_rfl
    rw [hc1] at ht
    have ht2 : DataW.trod enc Tryd.prog W 0 (fun _ => true) true n 22 [c] = some y0 := by simpa [Value.cells] using ht
    obtain ⟨hd, -⟩ := Prod.mk.inj hx
    obtain ⟨a, cap, l, hcs, h1, h2, h3⟩ := open_nodes ht2 (fun n hn => hw n (by
      rw [hd]
      simp only [DataW.weights, Tryd.underlying24]
      exact DataW.weights_mem_each (j := 0) (t := 22) (d := y0.1) rfl rfl n hn))
    obtain rfl : c = .slice a l.length cap := by simpa using hcs
    exact ⟨a, cap, l, rfl, h1, h2, h3⟩
theorem cellsAdd : Tryd.prog.cellsOf 26 = 3 := by kernel_rfl
theorem open_add {H : Type} {enc : TypeId × Value → H} {W : World} {b0 : Nat} {v : Value} {d : DataW H} {p : List MemPlace} (hval : Value.okWide Tryd.prog W .any b0 26 v) (h : DataW.Trod enc Tryd.prog W 0 (fun _ => true) true 26 v d p) :
    ∃ a b c : Int, v = .agg #[.int .i64 a, .int .i64 b, .int .i64 c] ∧ wfI a = true ∧ wfI b = true ∧ wfI c = true := by
  obtain ⟨cs, rfl, hsz⟩ := okWide_struct Tryd.underlying26 hval
  rw [cellsAdd] at hsz
  obtain ⟨fuel, hf⟩ := h
  obtain ⟨ys, n', hn', hy, hlen, hyl, hff⟩ := DataW.trod_struct Tryd.underlying26 hf
  obtain ⟨lc⟩ := cs
  match lc, hsz with
  | [c0, c1, c2], _ =>
    have ci : Tryd.prog.cellsOf 3 = 1 := cellsInt
    have t0 := hff 0 _ rfl
    have t1 := hff 1 _ rfl
    have t2 := hff 2 _ rfl
    have y0 : ∃ y, ys[0]? = some y := ⟨_, List.getElem?_eq_getElem (by rw [hyl]; decide)⟩
    have y1 : ∃ y, ys[1]? = some y := ⟨_, List.getElem?_eq_getElem (by rw [hyl]; decide)⟩
    have y2 : ∃ y, ys[2]? = some y := ⟨_, List.getElem?_eq_getElem (by rw [hyl]; decide)⟩
    obtain ⟨z0, y0⟩ := y0
    obtain ⟨z1, y1⟩ := y1
    obtain ⟨z2, y2⟩ := y2
    rw [y0] at t0
    rw [y1] at t1
    rw [y2] at t2
    simp only [Value.cells] at t0 t1 t2
    obtain ⟨a, g0, -, w0⟩ := DataW.trod_int Tryd.underlying3 t0
    obtain ⟨b, g1, -, w1⟩ := DataW.trod_int Tryd.underlying3 t1
    obtain ⟨c, g2, -, w2⟩ := DataW.trod_int Tryd.underlying3 t2
    obtain rfl : c0 = .int .i64 a := by have g : List.take (Tryd.prog.cellsOf 3) (List.drop 0 [c0, c1, c2]) = [.int .i64 a] := g0; rw [ci] at g; simpa using g
    obtain rfl : c1 = .int .i64 b := by have g : List.take (Tryd.prog.cellsOf 3) (List.drop 1 [.int .i64 a, c1, c2]) = [.int .i64 b] := g1; rw [ci] at g; simpa using g
    obtain rfl : c2 = .int .i64 c := by have g : List.take (Tryd.prog.cellsOf 3) (List.drop 2 [.int .i64 a, .int .i64 b, c2]) = [.int .i64 c] := g2; rw [ci] at g; simpa using g
    exact ⟨a, b, c, rfl, w0, w1, w2⟩
def laidL : List (String × DataW Unit) := [("math/bits.deBruijn64tab", Rows.laid_math_bits_deBruijn64tab)]
theorem laid_tab : (Rows.laid_math_bits_deBruijn64tab : DataW Unit) = Lib.tabData .u8 tabL := by rfl
theorem tab_of_laid {W : World} (h : laidMetH Tryd.prog laidL W) : TabG W := by
  rw [MakeChecks.laidMetH_plain _ _ _ (by kernel_rfl)] at h
  unfold laidL at h
  rw [laid_tab] at h
  have ht := Lib.tabIs_of_head (g := 0) (t := 89) (e := 5) (n := 64) (by kernel_rfl) (by kernel_rfl) Tryd.underlying89 Tryd.underlying5 (by kernel_rfl) (by kernel_rfl) h
  intro j hj
  have := World.var?_cell (g := 0) (by kernel_rfl) ht j
  rw [this]
  have hl : j < tabL.length := hj
  simp only [List.getElem?_toArray, List.getElem?_map]
  rw [List.getElem?_eq_getElem hl, List.getD_eq_getElem?_getD, List.getElem?_eq_getElem hl]
  rfl
theorem own : ownKnob Tryd.prog.godebug = none := by kernel_rfl
theorem laidOut : laidOutB Tryd.prog = true := by kernel_rfl
theorem door_met (os : Os) (args : Array Value) : laidMetH Tryd.prog laidL ((World.doorLaid Tryd.prog 400 os).forCall (fun _ _ => 0) ⟨#[], args, []⟩).memory :=
  laidMetH_of_parts3 (fuel := 8) (laidMet_of_run' 8 (by kernel_rfl) (by kernel_rfl)) (by kernel_rfl) (by kernel_rfl)
end Go.Proofs.YtfgalpfiggnkpaaDoor.PT
