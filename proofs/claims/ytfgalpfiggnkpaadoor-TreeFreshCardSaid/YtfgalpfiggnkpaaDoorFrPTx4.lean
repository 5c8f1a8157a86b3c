/- What treeFresh_card uses of the printed words and contracts. -/
import Derived.Test.YtfgalpfiggnkpaaDoorFrPTx0
import Derived.Test.YtfgalpfiggnkpaaDoorFrPTx1
import Derived.Test.YtfgalpfiggnkpaaDoorFrPTx3
namespace Go.Proofs.YtfgalpfiggnkpaaDoor.PT
open Go.RowKit Go.Proofs.YtfgalpfiggnkpaaDoorW.PrintWords Go.Proofs.YtfgalpfiggnkpaaDoorW.PrintLast Go.Proofs.YtfgalpfiggnkpaaDoorW.PrintMore
attribute [local go_sem] max2_int min2_int max_two min_two max_three min_three max_four min_four   -- for this text's walks alone
set_option linter.unusedVariables false
set_option linter.unusedSimpArgs false
section
def ca (cs : List Value) (j : Nat) : List Value := (cs.drop (j * 4)).take 4
theorem ca_get {cs : List Value} {j : Nat} {a b c d : Value} (h : ca cs j = [a, b, c, d]) : cs[j * 4]? = some a ∧ cs[j * 4 + 1]? = some b ∧ cs[j * 4 + 2]? = some c ∧ cs[j * 4 + 3]? = some d := by
  have hg : ∀ i, i < 4 → cs[j * 4 + i]? = (ca cs j)[i]? := fun i hi => by unfold ca; rw [List.getElem?_take, if_pos hi, List.getElem?_drop]
  rw [h] at hg
  exact ⟨hg 0 (by omega), hg 1 (by omega), hg 2 (by omega), hg 3 (by omega)⟩
theorem ca_ext {cs cs' : List Value} {j : Nat} (h : ∀ i, i < 4 → cs[j * 4 + i]? = cs'[j * 4 + i]?) : ca cs j = ca cs' j := by
  apply List.ext_getElem?
  intro i
  unfold ca
  rw [List.getElem?_take, List.getElem?_take]
  split
  · rename_i hi
    rw [List.getElem?_drop, List.getElem?_drop]
    exact h i hi
  · rfl
theorem ca_of {cs : List Value} {j : Nat} {a b c d : Value} (h0 : cs[j * 4]? = some a) (h1 : cs[j * 4 + 1]? = some b) (h2 : cs[j * 4 + 2]? = some c) (h3 : cs[j * 4 + 3]? = some d) : ca cs j = [a, b, c, d] := by
  apply List.ext_getElem?
  intro i
  unfold ca
  rw [List.getElem?_take]
  match i with
  | 0 => simpa [List.getElem?_drop] using h0
  | 1 => simpa [List.getElem?_drop] using h1
  | 2 => simpa [List.getElem?_drop] using h2
  | 3 => simpa [List.getElem?_drop] using h3
  | i + 4 => simp; omega
theorem ca_set_other {cs : List Value} {i j c : Nat} (v : Value) (hc : c < 4) (h : j ≠ i) : ca (cs.set (i * 4 + c) v) j = ca cs j :=
  ca_ext fun k hk => by rw [List.getElem?_set_ne (by omega)]
theorem ca_set3 {cs : List Value} {i : Nat} {a b c d : Value} (v : Value) (h : ca cs i = [a, b, c, d]) : ca (cs.set (i * 4 + 3) v) i = [a, b, c, v] := by
  obtain ⟨h0, h1, h2, h3⟩ := ca_get h
  refine ca_of ?_ ?_ ?_ ?_
  · rw [List.getElem?_set_ne (by omega)]; exact h0
  · rw [List.getElem?_set_ne (by omega)]; exact h1
  · rw [List.getElem?_set_ne (by omega)]; exact h2
  · rw [List.getElem?_set_self (List.getElem?_eq_some_iff.1 h3).1]
structure TB (W : World) (base g : Nat) (cs us : List Value) (T : List S45) : Prop where
  hb : base ≤ g
  blk : W.heap[g]? = some (.cells cs.toArray 45 (0, 0))
  len : cs.length = T.length * 4
  ul : us.length = T.length
  ce : ∀ (j : Nat) (x : S45) (u : Value), T[j]? = some x → us[j]? = some u → ca cs j = [.int .i64 x.f0, .int .i64 x.f1, .int .i64 x.f2, u]
  ow : ∀ (j : Nat) (x : S45) (u : Value), T[j]? = some x → us[j]? = some u → Kd.R (Kd.int .i64) 3 W base (fun k => k ≠ g) u x.f3
  ap : ∀ (i j : Nat) (u v : Value) (k : Nat), us[i]? = some u → us[j]? = some v → u.ownBlock = some k → v.ownBlock = some k → i = j
theorem TB.R {W : World} {base g : Nat} {cs us : List Value} {T : List S45} (h : TB W base g cs us T) (hm : T.length ≤ 9223372036854775807) :
    Kd.R k45 45 W base (fun _ => True) (.slice (some ⟨g, 0, none⟩) T.length T.length) T := by
  refine ⟨fun _ _ => trivial, cs, ⟨h.len, .inr ⟨g, T.length, cs.toArray, rfl, h.hb, h.blk, Nat.le_refl _, by simpa [maxLen] using hm, show cs.toArray.size = T.length * 4 by simpa using h.len, ?_⟩⟩, h.len, fun j x hj => ?_⟩
  · show List.take (T.length * 4) cs.toArray.toList = cs
    rw [List.take_of_length_le (by have h1 := h.len; simp; omega)]
  · have hjl := (List.getElem?_eq_some_iff.1 hj).1
    have hu : us[j]? = some (us[j]'(by rw [h.ul]; exact hjl)) := List.getElem?_eq_getElem _
    have hc := h.ce j x _ hj hu
    show k45.M W base _ x (ca cs j)
    rw [hc]
    exact k45_mkM W base _ x (Kd.R_mono (h.ow j x _ hj hu) (fun k hk => ⟨trivial, fun e => hk (by simpa [Value.ownBlock] using e)⟩))
theorem TB.below {W W1 : World} {base g : Nat} {cs us : List Value} {T : List S45} (h : TB W base g cs us T) (hb : Below W.heap.size W W1) : TB W1 base g cs us T :=
  ⟨h.hb, blk_below h.blk hb, h.len, h.ul, h.ce, fun j x u hj hu => Kd.R_below (h.ow j x u hj hu) hb, h.ap⟩
theorem TB.cells {W : World} {base g : Nat} {cs us : List Value} {T : List S45} (h : TB W base g cs us T) (j : Nat) (hj : j < T.length) :
    ∃ u, us[j]? = some u ∧ W.cell? ⟨g, j * 4, none⟩ = some (.int .i64 (T.getD j z45).f0) ∧ W.cell? ⟨g, j * 4 + 1, none⟩ = some (.int .i64 (T.getD j z45).f1) ∧ W.cell? ⟨g, j * 4 + 2, none⟩ = some (.int .i64 (T.getD j z45).f2) ∧ W.cell? ⟨g, j * 4 + 3, none⟩ = some u ∧
      Kd.R (Kd.int .i64) 3 W base (fun k => k ≠ g) u (T.getD j z45).f3 := by
  have hT : T[j]? = some (T.getD j z45) := by rw [List.getD_eq_getElem?_getD, List.getElem?_eq_getElem hj]; rfl
  have hu : us[j]? = some (us[j]'(by rw [h.ul]; exact hj)) := List.getElem?_eq_getElem _
  obtain ⟨h0, h1, h2, h3⟩ := ca_get (h.ce j _ _ hT hu)
  refine ⟨_, hu, ?_, ?_, ?_, ?_, h.ow j _ _ hT hu⟩
  · rw [blk_cell h.blk]; simpa using h0
  · rw [blk_cell h.blk]; simpa using h1
  · rw [blk_cell h.blk]; simpa using h2
  · rw [blk_cell h.blk]; simpa using h3
theorem one_k45 {w : World} {t : List S45} {inner : List Value} (hr : Reps (k45.K w) 4 t inner) : ∀ v ∈ inner, v.oneCell' = true := by
  intro v hv
  obtain ⟨i, hi, rfl⟩ := List.getElem_of_mem hv
  have hl := hr.1
  have hj : i / 4 < t.length := by omega
  have hK := hr.2 (i / 4) _ (List.getElem?_eq_getElem hj)
  refine k45.K_one hK _ ?_
  have : (ca inner (i / 4))[i % 4]? = some inner[i] := by
    unfold ca
    rw [List.getElem?_take, if_pos (by omega), List.getElem?_drop, show i / 4 * 4 + i % 4 = i by omega, List.getElem?_eq_getElem hi]
  exact List.mem_of_getElem? this
theorem wpList_copy_nodes {P : Program} {W w0 : World} {ops : Array Oper} {rest : List Oper} {o : Oper} {a : Act} {Q : Exit → Act → World → Prop} (hgd : o.guard = none) (d s : Operand) (dT sT : TypeId)
    (ho : o.op = .call { callee := .builtin .copy, args := #[d, s], argTypes := #[dT, sT] }) (elem : TypeId) (hu : P.underlying dT = some (.slice elem)) (hsz : (P.info? elem).map (·.size) = some 4)
    (g m cap c : Nat) (A : Option Addr) (t : List S45) (hd : a.eval d = .slice (some ⟨g, 0, none⟩) m cap) (hs : a.eval s = .slice A t.length c) (HR : Kd.C k45 w0 A t.length t) (hn : t.length ≤ m)
    (zs : List Value) (ty : TypeId) (hg : W.heap[g]? = some (.cells zs.toArray ty (0, 0))) (hzl : zs.length = m * 4) (hB : Below w0.heap.size w0 W)
    (h : ∀ W' cs, W'.heap[g]? = some (.cells (cs : List Value).toArray ty (0, 0)) → cs.length = m * 4 → (∀ (j : Nat) (x : S45), t[j]? = some x → k45.K w0 x (ca cs j)) → (∀ j, t.length ≤ j → ca cs j = ca zs j) → Below g W W' → wpList P ops Q rest (a.put o.dst (goInt (t.length : Int))) W') :
    wpList P ops Q (o :: rest) a W := by
  refine wpList_plain hgd fun K hK => ?_
  rcases Nat.eq_zero_or_pos t.length with h0 | hp
  · have hrun := run_copy_zero (P := P) W dT sT o.type elem (some ⟨g, 0, none⟩) A m cap c 4 hu hsz
    have hw := h W zs hg hzl (fun j x hj => by have := (List.getElem?_eq_some_iff.1 hj).1; omega) (fun j _ => rfl) (Below.refl _ _)
    rw [h0] at hs hw
    unfold Oper.wp
    simp [execOp, ho, resolve, invoke, builtin, hd, hs, hrun, Result.andThen]
    exact hK _ _ hw
  · obtain ⟨ad, rfl, _⟩ := HR.2.2 hp
    obtain ⟨inner, hr, hc⟩ := ReadsRow.inner_ HR
    have hr4 : Reps (k45.K w0) 4 t inner := hr
    have hmin : Nat.min t.length m = t.length := Nat.min_eq_left hn
    have hil : inner.length = t.length * 4 := hr4.1
    have hrun := run_copy_rows (P := P) W dT sT o.type elem g 0 m cap 4 ad t.length c zs.toArray ty inner hu hsz hg (by rw [hmin]; exact hil) (fun j v hj => pw_cell_below hB (hc j v hj)) (by simp; omega) (one_k45 hr4)
    rw [hmin] at hrun
    unfold Oper.wp
    simp only [execOp, ho, resolve, invoke, builtin, Sem.run_bind, Sem.run_pure, Result.andThen_ok, List.map_toArray, List.map_cons, List.map_nil, hd, hs, hrun]
    refine hK _ _ (h _ (inner ++ zs.drop (t.length * 4)) ?_ ?_ ?_ ?_ (below_setRow (Below.refl _ _) (Nat.le_refl _) _))
    · have := setRow_heap W g zs.toArray (zs.toArray.toList.take 0 ++ inner ++ zs.toArray.toList.drop (0 + inner.length)).toArray ty (0, 0) hg
      rw [this]
      simp [hil]
    · rw [List.length_append, List.length_drop, hil]; omega
    · intro j x hj
      have hjl := (List.getElem?_eq_some_iff.1 hj).1
      have hK2 := hr4.2 j x hj
      have : ca (inner ++ zs.drop (t.length * 4)) j = ca inner j := ca_ext fun i hi => by rw [List.getElem?_append_left (by omega)]
      rw [this]
      exact hK2
    · intro j hj
      refine ca_ext fun i hi => ?_
      rw [List.getElem?_append_right (by omega), List.getElem?_drop, hil]
      congr 1
      omega
structure TW (W : World) (base g : Nat) (cs us : List Value) (T : List S45) (w0 : World) (i : Nat) : Prop where
  hb : base ≤ g
  blk : W.heap[g]? = some (.cells cs.toArray 45 (0, 0))
  len : cs.length = T.length * 4
  ul : us.length = i
  le : i ≤ T.length
  done : ∀ (j : Nat) (x : S45) (u : Value), T[j]? = some x → us[j]? = some u → ca cs j = [.int .i64 x.f0, .int .i64 x.f1, .int .i64 x.f2, u] ∧ Kd.R (Kd.int .i64) 3 W base (fun k => k ≠ g) u x.f3
  todo : ∀ (j : Nat) (x : S45), i ≤ j → T[j]? = some x → k45.K w0 x (ca cs j)
  ap : ∀ (i j : Nat) (u v : Value) (k : Nat), us[i]? = some u → us[j]? = some v → u.ownBlock = some k → v.ownBlock = some k → i = j
theorem TW.finish {W w0 : World} {base g : Nat} {cs us : List Value} {T : List S45} (h : TW W base g cs us T w0 T.length) : TB W base g cs us T :=
  ⟨h.hb, h.blk, h.len, h.ul, fun j x u hj hu => (h.done j x u hj hu).1, fun j x u hj hu => (h.done j x u hj hu).2, h.ap⟩
theorem TW.below {W W1 w0 : World} {base g i : Nat} {cs us : List Value} {T : List S45} (h : TW W base g cs us T w0 i) (hb : Below W.heap.size W W1) : TW W1 base g cs us T w0 i :=
  ⟨h.hb, blk_below h.blk hb, h.len, h.ul, h.le, fun j x u hj hu => ⟨(h.done j x u hj hu).1, Kd.R_below (h.done j x u hj hu).2 hb⟩, h.todo, h.ap⟩
theorem TW.step {W w1 w0 : World} {base g i : Nat} {cs us : List Value} {T : List S45} (h : TW W base g cs us T w0 i) (hi : i < T.length) (hb : Below W.heap.size W w1) {v1 : Value} (hv : Kd.R (Kd.int .i64) 3 w1 W.heap.size (fun _ => True) v1 (T.getD i z45).f3) :
    TW (w1.setCell ⟨g, i * 4 + 3, none⟩ v1) base g (cs.set (i * 4 + 3) v1) (us ++ [v1]) T w0 (i + 1) := by
  have hgl := blk_lt h.blk
  have hT : T[i]? = some (T.getD i z45) := by rw [List.getD_eq_getElem?_getD, List.getElem?_eq_getElem hi]; rfl
  have hbg : base ≤ W.heap.size := Nat.le_trans h.hb (Nat.le_of_lt hgl)
  have hlast : ∀ (j : Nat) (u : Value), (us ++ [v1])[j]? = some u → (j < i ∧ us[j]? = some u) ∨ (j = i ∧ u = v1) := by
    intro j u hj
    rcases Nat.lt_or_ge j i with hlt | hge
    · rw [List.getElem?_append_left (by rw [h.ul]; exact hlt)] at hj
      exact .inl ⟨hlt, hj⟩
    · rw [List.getElem?_append_right (by rw [h.ul]; exact hge), h.ul] at hj
      have : j - i = 0 := by
        rcases Nat.eq_zero_or_pos (j - i) with e | e
        · exact e
        · rw [List.getElem?_eq_none (by simp; omega)] at hj; cases hj
      rw [this] at hj
      exact .inr ⟨by omega, by simpa using hj.symm⟩
  refine ⟨h.hb, ?_, by rw [List.length_set]; exact h.len, by rw [List.length_append, h.ul]; rfl, hi, ?_, ?_, ?_⟩
  · have := blk_set (blk_below h.blk hb) (i * 4 + 3) v1
    simpa using this
  · intro j x u hj hu
    rcases hlast j u hu with ⟨hlt, hu⟩ | ⟨rfl, rfl⟩
    · obtain ⟨h1, h2⟩ := h.done j x u hj hu
      exact ⟨by rw [ca_set_other _ (by omega) (by omega)]; exact h1, Kd.R_far (p := ⟨g, i * 4 + 3, none⟩) (Kd.R_below h2 hb) (fun k hk => hk) _⟩
    · rw [hT] at hj
      obtain rfl := Option.some.inj hj
      obtain ⟨A3, c3, he, _, _⟩ := k45_open (h.todo j _ (Nat.le_refl _) hT)
      refine ⟨ca_set3 _ he, Kd.R_far (p := ⟨g, j * 4 + 3, none⟩) (Kd.R_mono (Kd.R_lower (Kd.R_bound hv) hbg) (fun k hk => ?_)) (fun k hk => hk) _⟩
      have := hk.2.1
      show k ≠ g
      omega
  · intro j x hj hx
    rw [ca_set_other _ (by omega) (by omega)]
    exact h.todo j x (by omega) hx
  · have hold : ∀ (j : Nat) (u : Value) (k : Nat), j < i → us[j]? = some u → u.ownBlock = some k → k < W.heap.size := by
      intro j u k hj hu hk
      have hjT : T[j]? = some (T[j]'(by omega)) := List.getElem?_eq_getElem _
      exact Kd.R_lt (h.done j _ u hjT hu).2 k hk
    intro p q u v k hu hv2 hk1 hk2
    rcases hlast p u hu with ⟨hp, hu3⟩ | ⟨rfl, rfl⟩ <;> rcases hlast q v hv2 with ⟨hq, hv3⟩ | ⟨rfl, rfl⟩
    · exact h.ap p q u v k hu3 hv3 hk1 hk2
    · have := hold p u k hp hu3 hk1
      have := Kd.R_base hv k hk2
      omega
    · have := hold q v k hq hv3 hk2
      have := Kd.R_base hv k hk1
      omega
    · rfl
theorem TB.set_other {W : World} {base g b t' : Nat} {cs us : List Value} {T : List S45} {cells : Array Value} (h : TB W base g cs us T) (hb : W.heap[b]? = some (.cells cells t' (0, 0))) (ht : 3 ≠ t') (hne : g ≠ b) (j : Nat) (u : Value) : TB (W.setCell ⟨b, j, none⟩ u) base g cs us T :=
  ⟨h.hb, blk_far h.blk (show g ≠ (⟨b, j, none⟩ : Addr).block from hne) u, h.len, h.ul, h.ce, fun i x v hi hv => Kd.R_set (h.ow i x v hi hv) hb (fun q hq => by simp [Kd.int, Kd.scalar] at hq; omega) j u, h.ap⟩
theorem nodeInfo : (Tryd.prog.info? 45).map (fun i => (i.zero, i.size, i.bytes)) = some (some (.agg #[.int .i64 0, .int .i64 0, .int .i64 0, .slice none 0 0]), 4, 48) := by kernel_rfl
theorem make_nodes (n : Int) (M : Nat) (hM : 2 * n - 1 = (M : Int)) (h8 : M ≤ 15) (W : World) :
    (Instr.makeSlice 22 (.int .i64 (2 * n - 1)) (.int .i64 (2 * n - 1))).run Tryd.prog W = .ok (.slice (some ⟨W.heap.size, 0, none⟩) M M) (W.alloc (.cells (madeCells #[Value.int .i64 0, .int .i64 0, .int .i64 0, .slice none 0 0] (M * 4)) 45)) := by
  obtain ⟨i0, hi, hzz⟩ := Option.map_eq_some_iff.1 nodeInfo
  simp only [Prod.mk.injEq] at hzz
  obtain ⟨hz0, hz1, hz2⟩ := hzz
  have hr := run_make (P := Tryd.prog) W 22 45 i0 _ Tryd.underlying22 hi hz0 .i64 .i64 (2 * n - 1) (2 * n - 1) (by omega) (by omega) (by rw [hz2, hM]; omega) (by omega)
  rw [hr, hM, hz1]
  rfl
def zroNode : List Value := [.int .i64 0, .int .i64 0, .int .i64 0, .slice none 0 0]
theorem C_empty (w : World) (A : Option Addr) : Kd.C (Kd.int .i64) w A 0 [] := ⟨rfl, by omega, fun h => absurd h (by omega)⟩
theorem zero_K (w : World) : k45.K w z45 zroNode := k45_mk w z45 (A3 := none) (c3 := 0) (Nat.le_refl _) (C_empty w none)
theorem made_ca (M j : Nat) (hj : j < M) : ca (madeCells #[Value.int .i64 0, .int .i64 0, .int .i64 0, .slice none 0 0] (M * 4)).toList j = zroNode := by
  have h := Kd.reps_made (R := fun (_ : Unit) cs => cs = zroNode) (z := Value.agg #[.int .i64 0, .int .i64 0, .int .i64 0, .slice none 0 0]) (size := 4) (z0 := ()) rfl (by omega) rfl M
  exact h.2 j () (by rw [List.getElem?_replicate, if_pos hj])
set_option maxRecDepth 100000 in
set_option maxHeartbeats 4000000 in
theorem twin_any (A0 : Option Addr) (c0 : Nat) (t : List S45) (n : Int) (M : Nat) (w : World) (HR : Aside0 (Kd.C k45 w A0 t.length t)) (hM : Aside0 (2 * n - 1 = (M : Int))) (n1 : 1 ≤ n) (n8 : n ≤ 8) (HL : Aside0 (t.length ≤ M)) (HU : Aside0 (∀ x ∈ t, x.f3.length * 8 ≤ 140737488355328)) :
    Calls Tryd.prog 30 #[.agg #[.slice A0 t.length c0], .int .i64 n] w fun e w' => ∃ g cs us, e = .returned (.agg #[.slice (some ⟨g, 0, none⟩) M M]) ∧ TB w' w.heap.size g cs us (t ++ List.replicate (M - t.length) z45) ∧ Below w.heap.size w w' := by
  have hu45 := Tryd.underlying45
  have hu24 := Tryd.underlying24
  have hmk := make_nodes n M hM.out (by have := hM.out; omega)
  go_enter Tryd.func30, Tryd.ntmps30
  have hz1 : (Tryd.prog.info? 45).map (·.size) = some 4 := by
    obtain ⟨i0, hi, hzz⟩ := Option.map_eq_some_iff.1 nodeInfo
    simp only [Prod.mk.injEq] at hzz
    rw [hi]
    simp [hzz.2.1]
  have HZ := Aside0.mk hz1
  clear hz1
  go_wp2_with (with_reducible refine wpList_copy_nodes (w0 := w) rfl (.tmp 11) (.tmp 13) 22 22 rfl 45 Tryd.underlying22 HZ.out (w.heap.size + 1 + 1) M M c0 A0 t rfl rfl HR.out HL.out (madeCells #[Value.int .i64 0, .int .i64 0, .int .i64 0, .slice none 0 0] (M * 4)).toList 45 ?hg1 ?hl1 ?hb1 ?_; rotate_right; intro W1 cs1 hbl1 hcl1 hK1 hz1 hbb1; have HC1 := Aside0.mk (And.intro hbl1 (And.intro hcl1 (And.intro hK1 (And.intro hz1 hbb1)))); clear hbl1 hcl1 hK1 hz1 hbb1)
  case hg1 =>
    have := heap_alloc_new ((w.alloc (Obj.cells #[Value.slice A0 t.length c0] 24)).alloc (Obj.cells #[Value.slice none 0 0] 24)) (Obj.cells (madeCells #[Value.int .i64 0, .int .i64 0, .int .i64 0, .slice none 0 0] (M * 4)) 45)
    simpa using this
  case hl1 => simp [size_madeCells]
  case hb1 => exact below_alloc (below_alloc (below_alloc (Below.refl _ _) _) _) _
  obtain ⟨hbl1, hcl1, hK1, hz1, hbb1⟩ := HC1.out
  have hlen := HL.out
  have hTl : (t ++ List.replicate (M - t.length) z45).length = M := by simp; omega
  have hres : W1.cell? ⟨w.heap.size + 1, 0, none⟩ = some (.slice none 0 0) := by
    rw [hbb1.cell (by show w.heap.size + 1 < w.heap.size + 1 + 1; omega)]
    have h1 := blk_cell (heap_alloc_new (w.alloc (Obj.cells #[Value.slice A0 t.length c0] 24)) (Obj.cells #[Value.slice none 0 0] 24)) 0
    have h2 := cell_alloc (w := (w.alloc (Obj.cells #[Value.slice A0 t.length c0] 24)).alloc (Obj.cells #[Value.slice none 0 0] 24)) (a := ⟨w.heap.size + 1, 0, none⟩) (v := .slice none 0 0) (by simp) (Obj.cells (madeCells #[Value.int .i64 0, .int .i64 0, .int .i64 0, .slice none 0 0] (M * 4)) 45)
    exact h2
  have hfro : W1.heap[w.heap.size + 1]? = some (.cells #[.slice none 0 0] 24 (0, 0)) := by
    rw [hbb1.block _ (by omega)]
    have h1 := heap_alloc_new (w.alloc (Obj.cells #[Value.slice A0 t.length c0] 24)) (Obj.cells #[Value.slice none 0 0] 24)
    have h2 := blk_below h1 (below_alloc (Below.refl _ _) (Obj.cells (madeCells #[Value.int .i64 0, .int .i64 0, .int .i64 0, .slice none 0 0] (M * 4)) 45))
    simpa using h2
  have HB1 := Aside0.mk ((below_alloc (below_alloc (below_alloc (Below.refl w.heap.size w) (Obj.cells #[Value.slice A0 t.length c0] 24)) (Obj.cells #[Value.slice none 0 0] 24)) (Obj.cells (madeCells #[Value.int .i64 0, .int .i64 0, .int .i64 0, .slice none 0 0] (M * 4)) 45)).trans (hbb1.mono (by omega)))
  have HTW := Aside0.mk (show TW W1 w.heap.size (w.heap.size + 1 + 1) cs1 [] (t ++ List.replicate (M - t.length) z45) w 0 from
    ⟨by omega, hbl1, by rw [hTl]; exact hcl1, rfl, Nat.zero_le _, fun j x u _ hu => by simp at hu, fun j x _ hx => by
      rcases Nat.lt_or_ge j t.length with h | h
      · rw [List.getElem?_append_left h] at hx
        exact hK1 j x hx
      · have hjM : j < M := by have := (List.getElem?_eq_some_iff.1 hx).1; omega
        rw [hz1 j h, made_ca M j hjM]
        rw [List.getElem?_append_right h, List.getElem?_replicate, if_pos (by omega)] at hx
        obtain rfl := Option.some.inj hx
        exact zero_K w, fun i j u v k hu => by simp at hu⟩)
  have HFR := Aside0.mk hfro
  clear hbl1 hcl1 hK1 hz1 hbb1 HC1 hfro hres hlen
  have HTL := Aside0.mk hTl
  clear hTl hmk
  have hM15 : (M : Int) ≤ 15 := by have := hM.out; omega
  go_loopw [17] (fun v17 wr => ∃ k : Nat, k ≤ M ∧ v17 = .int .i64 k ∧ Aside0 (∃ cs us, TW wr w.heap.size (w.heap.size + 1 + 1) cs us (t ++ List.replicate (M - t.length) z45) w k) ∧ Aside0 (wr.heap[w.heap.size + 1]? = some (.cells #[.slice none 0 0] 24 (0, 0))) ∧ Aside0 (Below w.heap.size w wr))
    (fun v17 _ => M - (intOf v17).toNat)
  case atStart => exact ⟨0, Nat.zero_le _, rfl, ⟨_, _, HTW.out⟩, HFR, HB1⟩
  case round =>
    clear HTW HFR HB1
    obtain ⟨k, hk, rfl, HTW, HFR, HB⟩ := hrel
    by_cases hlt : k < M
    · obtain ⟨cs, us, hTW⟩ := HTW.out
      have hkT : k < (t ++ List.replicate (M - t.length) z45).length := by rw [HTL.out]; exact hlt
      have hxT : (t ++ List.replicate (M - t.length) z45)[k]? = some ((t ++ List.replicate (M - t.length) z45).getD k z45) := by rw [List.getD_eq_getElem?_getD, List.getElem?_eq_getElem hkT]; rfl
      obtain ⟨A3, c3, he, hl3, hC3⟩ := k45_open (hTW.todo k _ (Nat.le_refl _) hxT)
      obtain ⟨_, _, _, hcell⟩ := ca_get he
      have hcx : wr.cell? ⟨w.heap.size + 1 + 1, k * 4 + 3, none⟩ = some (.slice A3 ((t ++ List.replicate (M - t.length) z45).getD k z45).f3.length c3) := by
        rw [blk_cell hTW.blk]; simpa using hcell
      have HC3 := Aside0.mk (Kd.C_below hC3 HB.out)
      have HL3 := Aside0.mk hl3
      have hun : ((t ++ List.replicate (M - t.length) z45).getD k z45).f3.length * 8 ≤ 140737488355328 := by
        rcases List.mem_append.1 (List.mem_of_getElem? hxT) with h | h
        · exact HU.out _ h
        · rw [List.eq_of_mem_replicate h]; simp [z45]
      have HU3 := Aside0.mk (show slices_Clone_int_int.f ((t ++ List.replicate (M - t.length) z45).getD k z45).f3 = some _ from if_pos hun)
      have HTW2 := Aside0.mk hTW
      have hbk := hTW.blk
      clear hxT he hl3 hC3 hcell hun hTW HTW
      have HBK := Aside0.mk hbk
      have HKT := Aside0.mk hkT
      clear hbk hkT
      generalize hun : ((t ++ List.replicate (M - t.length) z45).getD k z45).f3 = un at hcx HC3 HL3 HU3
      have HUN := Aside0.mk hun
      clear hun
      go_wp2_with (go_at_call 44; refine (slices_Clone_int_int.calls A3 c3 un un _ HC3.out HL3.out HU3.out).mono ?_; rintro e w2 ⟨v0, rfl, ho, hb⟩; obtain ⟨Av, cv, rfl⟩ := Kd.R_slice ho; have hc2 : w2.cell? ⟨w.heap.size + 1 + 1, k * 4 + 3, none⟩ = some _ := (hb.cell (World.block_lt_of_cell? _ _ hcx)).trans hcx; have hf2 : w2.frozen? ⟨w.heap.size + 1 + 1, k * 4 + 3, none⟩ = false := blk_frozen (blk_below HBK.out hb) _; have HO := Aside0.mk ho; have HB2 := Aside0.mk hb; clear ho hb)
      go_roundw
      case rel => exact ⟨k + 1, by omega, by go_num, ⟨_, _, HTW2.out.step HKT.out HB2.out (by rw [HUN.out]; exact HO.out)⟩, ⟨blk_far (blk_below HFR.out HB2.out) (by show w.heap.size + 1 ≠ w.heap.size + 1 + 1; omega) _⟩, ⟨Below.setCell (HB.out.trans (HB2.out.mono HB.out.size)) (by show w.heap.size ≤ w.heap.size + 1 + 1; omega) _⟩⟩
      case measure => simp [intOf]; omega
    · obtain rfl : k = M := by omega
      obtain ⟨cs, us, hTW⟩ := HTW.out
      have hrc : wr.cell? ⟨w.heap.size + 1, 0, none⟩ = some (.slice none 0 0) := blk_cell HFR.out 0
      have hrf : wr.frozen? ⟨w.heap.size + 1, 0, none⟩ = false := blk_frozen HFR.out 0
      have HTW2 := Aside0.mk hTW
      clear hTW HTW
      go_wp2
      have hsc : (wr.setCell ⟨w.heap.size + 1, 0, none⟩ (Value.slice (some ⟨w.heap.size + 1 + 1, 0, none⟩) k k)).cell? ⟨w.heap.size + 1, 0, none⟩ = some (Value.slice (some ⟨w.heap.size + 1 + 1, 0, none⟩) k k) := by
        rw [blk_cell (blk_set HFR.out 0 _)]; rfl
      refine bodyPost_ret (v := .agg #[.slice (some ⟨w.heap.size + 1 + 1, 0, none⟩) k k]) (by simp [results, Tryd.results30, go_sem, hsc]) rfl ⟨_, cs, us, rfl, ?_, ?_⟩
      · have h2 : TB wr w.heap.size (w.heap.size + 1 + 1) cs us (t ++ List.replicate (k - t.length) z45) := TW.finish (by rw [HTL.out]; exact HTW2.out)
        exact h2.set_other HFR.out (by decide) (by omega) 0 _
      · exact Below.setCell HB.out (by show w.heap.size ≤ w.heap.size + 1; omega) _
end
def index_in.f (a0 : Int) (a1 : Int) : Option (Bool) := (index_tree.f a1).bind fun t133 => (if t133 = true then (if a0 ≥ 0 then (some (decide (a0 < (wrap64 ((wrap64 (2 * a1)) - 1))))) else (some false)) else (some false))
set_option maxHeartbeats 8000000 in
set_option maxRecDepth 100000 in
theorem index_in.calls (a0 : Int) (a1 : Int) (r : Bool) (w : World) (h : index_in.f a0 a1 = some r) :
    Calls Tryd.prog 58 #[.int .i64 a0, .int .i64 a1] w fun e w' => e = .returned (.bool r) ∧ Drawn0 w w' := by
  have H : ((index_tree.f a1).bind fun t133 => (if t133 = true then (if a0 ≥ 0 then (some (decide (a0 < (wrap64 ((wrap64 (2 * a1)) - 1))))) else (some false)) else (some false))) = some r := h
  clear h
  replace H := Option.bind_eq_some_iff.mp H
  obtain ⟨t133, A30, H⟩ := H
  replace H : (if t133 = true then (if a0 ≥ 0 then (some (decide (a0 < (wrap64 ((wrap64 (2 * a1)) - 1))))) else (some false)) else (some false)) = some r := H
  have A3 := Aside0.mk A30
  clear A30
  by_cases c4 : t133 = true
  · subst c4
    have H1 : (if a0 ≥ 0 then (some (decide (a0 < (wrap64 ((wrap64 (2 * a1)) - 1))))) else (some false)) = some r := by rw [if_pos rfl] at H; exact H
    clear H
    have H := H1
    clear H1
    by_cases c5 : a0 ≥ 0
    · rw [if_pos c5] at H
      have c5b0 : decide (0 ≤ a0) = true := decide_eq_true c5
      clear c5
      obtain rfl := Option.some.inj H
      go_enter Tryd.func58, Tryd.ntmps58
      go_wp2_with (first | ((with_reducible refine gate_callee (f := 56) rfl ?_); refine goesL_ (some 6) rfl rfl Tryd.func56 (by kernel_rfl) rfl #[.int .i64 a1] rfl (by (try simp only [List.map_toArray, List.map_cons, List.map_nil]); first | done | rfl | (simp only [List.length_drop, List.length_take]; rfl)) ?_; (with_reducible refine (index_tree.calls a1 true _ A3.out).mono ?_); rintro e w' ⟨rfl, ⟨nd, rfl⟩⟩; refine ⟨_, rfl, ?_⟩))
      go_ret
      exact ⟨by first | rfl | (simp; done) | (simp [*]; done), by repeat (first | exact Drawn0.refl _ | apply Drawn0.step)⟩
    · rw [if_neg c5] at H
      have c5b0 : decide (0 ≤ a0) = false := decide_eq_false c5
      clear c5
      obtain rfl := Option.some.inj H
      go_enter Tryd.func58, Tryd.ntmps58
      go_wp2_with (first | ((with_reducible refine gate_callee (f := 56) rfl ?_); refine goesL_ (some 6) rfl rfl Tryd.func56 (by kernel_rfl) rfl #[.int .i64 a1] rfl (by (try simp only [List.map_toArray, List.map_cons, List.map_nil]); first | done | rfl | (simp only [List.length_drop, List.length_take]; rfl)) ?_; (with_reducible refine (index_tree.calls a1 true _ A3.out).mono ?_); rintro e w' ⟨rfl, ⟨nd, rfl⟩⟩; refine ⟨_, rfl, ?_⟩))
      go_ret
      exact ⟨by first | rfl | (simp; done) | (simp [*]; done), by repeat (first | exact Drawn0.refl _ | apply Drawn0.step)⟩
  · replace c4 := Bool.eq_false_iff.mpr c4
    subst c4
    have H1 : (some false) = some r := by rw [if_neg (show ¬ (false = true) by decide)] at H; exact H
    clear H
    have H := H1
    clear H1
    obtain rfl := Option.some.inj H
    go_enter Tryd.func58, Tryd.ntmps58
    go_wp2_with (first | ((with_reducible refine gate_callee (f := 56) rfl ?_); refine goesL_ (some 6) rfl rfl Tryd.func56 (by kernel_rfl) rfl #[.int .i64 a1] rfl (by (try simp only [List.map_toArray, List.map_cons, List.map_nil]); first | done | rfl | (simp only [List.length_drop, List.length_take]; rfl)) ?_; (with_reducible refine (index_tree.calls a1 false _ A3.out).mono ?_); rintro e w' ⟨rfl, ⟨nd, rfl⟩⟩; refine ⟨_, rfl, ?_⟩))
    go_ret
    exact ⟨by first | rfl | (simp; done) | (simp [*]; done), by repeat (first | exact Drawn0.refl _ | apply Drawn0.step)⟩
def index_Parent.f (a0 : Int) (a1 : Int) : Option (Int × Bool) := (index_in.f a0 a1).bind fun t134 => (if t134 = true then (if a0 = (wrap64 (a1 - 1)) then (some (0, false)) else ((index_Level.f a0).bind fun t135 => (if 0 ≤ t135 then (some (Go.bits .andNot .i64 (Go.bits .or .i64 a0 (shl .i64 1 t135)) (wrap64 ((shl .i64 1 t135) * 2)), true)) else (none)))) else (some (0, false)))
set_option maxHeartbeats 8000000 in
set_option maxRecDepth 100000 in
theorem index_Parent.calls (a0 : Int) (a1 : Int) (r1 : Int) (r2 : Bool) (w : World) (hT : TabG w) (h : index_Parent.f a0 a1 = some (r1, r2)) :
    Calls Tryd.prog 59 #[.int .i64 a0, .int .i64 a1] w fun e w' => e = .returned (.tuple #[.int .i64 r1, .bool r2]) ∧ Drawn0 w w' := by
  have HT := Aside0.mk hT
  clear hT
  have H : ((index_in.f a0 a1).bind fun t134 => (if t134 = true then (if a0 = (wrap64 (a1 - 1)) then (some (0, false)) else ((index_Level.f a0).bind fun t135 => (if 0 ≤ t135 then (some (Go.bits .andNot .i64 (Go.bits .or .i64 a0 (shl .i64 1 t135)) (wrap64 ((shl .i64 1 t135) * 2)), true)) else (none)))) else (some (0, false)))) = some (r1, r2) := h
  clear h
  replace H := Option.bind_eq_some_iff.mp H
  obtain ⟨t134, A30, H⟩ := H
  replace H : (if t134 = true then (if a0 = (wrap64 (a1 - 1)) then (some (0, false)) else ((index_Level.f a0).bind fun t135 => (if 0 ≤ t135 then (some (Go.bits .andNot .i64 (Go.bits .or .i64 a0 (shl .i64 1 t135)) (wrap64 ((shl .i64 1 t135) * 2)), true)) else (none)))) else (some (0, false))) = some (r1, r2) := H
  have A3 := Aside0.mk A30
  clear A30
  by_cases c4 : t134 = true
  · subst c4
    have H1 : (if a0 = (wrap64 (a1 - 1)) then (some (0, false)) else ((index_Level.f a0).bind fun t135 => (if 0 ≤ t135 then (some (Go.bits .andNot .i64 (Go.bits .or .i64 a0 (shl .i64 1 t135)) (wrap64 ((shl .i64 1 t135) * 2)), true)) else (none)))) = some (r1, r2) := by rw [if_pos rfl] at H; exact H
    clear H
    have H := H1
    clear H1
    by_cases c5 : a0 = (wrap64 (a1 - 1))
    · rw [if_pos c5] at H
      have c5b0 : (a0 == (wrap64 (a1 - 1))) = true := beq_iff_eq.mpr c5
      have c5b1 : (a0 != (wrap64 (a1 - 1))) = false := bne_eq_false_iff_eq.mpr c5
      clear c5
      simp only [Option.some.injEq, Prod.mk.injEq] at H
      obtain ⟨rfl, rfl⟩ := H
      go_enter Tryd.func59, Tryd.ntmps59
      go_wp2_with (first | ((with_reducible refine gate_callee (f := 58) rfl ?_); refine goesL_ (some 9) rfl rfl Tryd.func58 (by kernel_rfl) rfl #[.int .i64 a0, .int .i64 a1] rfl (by (try simp only [List.map_toArray, List.map_cons, List.map_nil]); first | done | rfl | (simp only [List.length_drop, List.length_take]; rfl)) ?_; (with_reducible refine (index_in.calls a0 a1 true _ A3.out).mono ?_); rintro e w' ⟨rfl, ⟨nd, rfl⟩⟩; refine ⟨_, rfl, ?_⟩))
      go_ret2
      exact ⟨by first | rfl | (simp; done) | (simp [*]; done), by repeat (first | exact Drawn0.refl _ | apply Drawn0.step)⟩
    · rw [if_neg c5] at H
      have c5b0 : (a0 == (wrap64 (a1 - 1))) = false := beq_eq_false_iff_ne.mpr c5
      have c5b1 : (a0 != (wrap64 (a1 - 1))) = true := bne_iff_ne.mpr c5
      replace H := Option.bind_eq_some_iff.mp H
      obtain ⟨t135, A60, H⟩ := H
      replace H : (if 0 ≤ t135 then (some (Go.bits .andNot .i64 (Go.bits .or .i64 a0 (shl .i64 1 t135)) (wrap64 ((shl .i64 1 t135) * 2)), true)) else (none)) = some (r1, r2) := H
      have A6 := Aside0.mk A60
      clear A60
      by_cases c7 : 0 ≤ t135
      · rw [if_pos c7] at H
        have c7b0 := eq_true c7
        have c7b1 : decide (0 ≤ t135) = true := decide_eq_true c7
        clear c7
        obtain ⟨ji8, hji8⟩ : ∃ j_ : Int, (shl .i64 1 t135) = j_ := ⟨_, rfl⟩
        replace H : (some (Go.bits .andNot .i64 (Go.bits .or .i64 a0 (ji8)) (wrap64 ((ji8) * 2)), true)) = some (r1, r2) := by first | (rw [hji8] at H; exact H) | (simp only [hji8] at H ⊢; exact H)
        (try rw [hji8] at A3)
        (try rw [hji8] at A6)
        have hji8_ : (IntKind.i64.wrap (1 * 2 ^ min t135.toNat 64)) = ji8 := hji8
        have hji8z : t135 ≤ 64 → (IntKind.i64.wrap (1 * 2 ^ t135.toNat)) = ji8 := shl_small hji8
        have hji8u : (IntKind.i64.wrap (2 ^ min t135.toNat 64)) = ji8 := by have h_ := hji8_; rw [Int.one_mul] at h_; exact h_
        have hji8v : t135 ≤ 64 → (IntKind.i64.wrap (2 ^ t135.toNat)) = ji8 := fun hle_ => by have h_ := hji8z hle_; rw [Int.one_mul] at h_; exact h_
        have hji8y : (wrap64 (1 * 2 ^ min t135.toNat 64)) = ji8 := (i64_w _).symm.trans hji8_
        have hji8x : t135 ≤ 64 → (wrap64 (1 * 2 ^ t135.toNat)) = ji8 := fun h_ => (i64_w _).symm.trans (hji8z h_)
        simp only [Option.some.injEq, Prod.mk.injEq] at H
        obtain ⟨rfl, rfl⟩ := H
        go_enter Tryd.func59, Tryd.ntmps59
        go_wp2_with (first | ((with_reducible refine gate_callee (f := 58) rfl ?_); refine goesL_ (some 9) rfl rfl Tryd.func58 (by kernel_rfl) rfl #[.int .i64 a0, .int .i64 a1] rfl (by (try simp only [List.map_toArray, List.map_cons, List.map_nil]); first | done | rfl | (simp only [List.length_drop, List.length_take]; rfl)) ?_; (with_reducible refine (index_in.calls a0 a1 true _ A3.out).mono ?_); rintro e w' ⟨rfl, ⟨nd, rfl⟩⟩; refine ⟨_, rfl, ?_⟩) | ((with_reducible refine gate_callee (f := 57) rfl ?_); refine goesL_ (some 18) rfl rfl Tryd.func57 (by kernel_rfl) rfl #[.int .i64 a0] rfl (by (try simp only [List.map_toArray, List.map_cons, List.map_nil]); first | done | rfl | (simp only [List.length_drop, List.length_take]; rfl)) ?_; (with_reducible refine (index_Level.calls a0 t135 _ ?side1 A6.out).mono ?_); (case side1 => repeat (first | exact HT.out | exact TabG.below HT.out HB.out | (with_reducible refine TabG.alloc ?_ _) | (with_reducible refine TabG.drewN ?_ _) | (with_reducible refine TabG.drew ?_) | exact TabG.below HT.out (by repeat (first | (with_reducible first | exact HB.out | apply below_alloc | apply pw_below_drewN | apply below_drew1) | exact HB.out)))); rintro e w' ⟨rfl, ⟨nd, rfl⟩⟩; refine ⟨_, rfl, ?_⟩))
        go_ret2
        exact ⟨by first | rfl | (simp; done) | (simp only [← hji8] <;> (first | rfl | simp)) | (simp [*]; done), by repeat (first | exact Drawn0.refl _ | apply Drawn0.step)⟩
      · rw [if_neg c7] at H
        exact absurd H (by simp)
  · replace c4 := Bool.eq_false_iff.mpr c4
    subst c4
    have H1 : (some (0, false)) = some (r1, r2) := by rw [if_neg (show ¬ (false = true) by decide)] at H; exact H
    clear H
    have H := H1
    clear H1
    simp only [Option.some.injEq, Prod.mk.injEq] at H
    obtain ⟨rfl, rfl⟩ := H
    go_enter Tryd.func59, Tryd.ntmps59
    go_wp2_with (first | ((with_reducible refine gate_callee (f := 58) rfl ?_); refine goesL_ (some 9) rfl rfl Tryd.func58 (by kernel_rfl) rfl #[.int .i64 a0, .int .i64 a1] rfl (by (try simp only [List.map_toArray, List.map_cons, List.map_nil]); first | done | rfl | (simp only [List.length_drop, List.length_take]; rfl)) ?_; (with_reducible refine (index_in.calls a0 a1 false _ A3.out).mono ?_); rintro e w' ⟨rfl, ⟨nd, rfl⟩⟩; refine ⟨_, rfl, ?_⟩))
    go_ret2
    exact ⟨by first | rfl | (simp; done) | (simp [*]; done), by repeat (first | exact Drawn0.refl _ | apply Drawn0.step)⟩
def index_up.l0 : Nat → Int → Int → List Int → Bool → Option (List Int)
  | 0, _, _, _, _ => none
  | k + 1, x0, x1, x5, x6 => if x6 = true then (if x5.length < 17592186044416 then ((index_Parent.f x0 x1).bind fun bt140 => (index_up.l0 k bt140.1 x1 (x5 ++ [x0]) bt140.2)) else (none)) else (some x5)
def index_up.f (k : Nat) (a0 : Int) (a1 : Int) : Option (List Int) := (index_in.f a0 a1).bind fun t136 => (index_up.l0 k a0 a1 ([] : List Int) t136)
theorem index_up.mono_l : ∀ k, (∀ y0 y1 y2 y3, LeO (index_up.l0 k y0 y1 y2 y3) (index_up.l0 (k + 1) y0 y1 y2 y3))
  | 0 => fun _ _ _ _ r h => by simp [index_up.l0] at h
  | k + 1 => by
    have ih0 := index_up.mono_l k
    · intro y0 y1 y2 y3
      unfold index_up.l0
      repeat' first
      | (with_reducible exact ih0 _ _ _ _)
      | (with_reducible exact LeO.refl _)
      | (with_reducible exact LeO.none _)
      | (with_reducible refine LeO.ite ?_ ?_)
      | (with_reducible refine LeO.bind ?_ (fun _ => ?_))
      | exact ih0 _ _ _ _
      | exact LeO.none _
      | refine LeO.ite ?_ ?_
      | refine LeO.bind ?_ (fun _ => ?_)
theorem index_up.mono : ∀ a0 a1 k, LeO (index_up.f k a0 a1) (index_up.f (k + 1) a0 a1) := by
  intro a0 a1 k
  have ih0 := index_up.mono_l k
  unfold index_up.f
  repeat' first
      | (with_reducible exact ih0 _ _ _ _)
      | (with_reducible exact LeO.refl _)
      | (with_reducible exact LeO.none _)
      | (with_reducible refine LeO.ite ?_ ?_)
      | (with_reducible refine LeO.bind ?_ (fun _ => ?_))
      | exact ih0 _ _ _ _
      | exact LeO.none _
      | refine LeO.ite ?_ ?_
      | refine LeO.bind ?_ (fun _ => ?_)
set_option maxHeartbeats 8000000 in
set_option maxRecDepth 100000 in
theorem index_up.calls (k : Nat) (a0 : Int) (a1 : Int) (r : List Int) (w : World) (hT : TabG w) (h : index_up.f k a0 a1 = some r) :
    Calls Tryd.prog 45 #[.int .i64 a0, .int .i64 a1] w fun e w' => ∃ v0_ : Value, e = .returned (v0_) ∧ Kd.R (Kd.int .i64) 3 w' w.heap.size (fun _ => True) v0_ r ∧ Below w.heap.size w w' := by
  have HB := Aside0.mk (Below.refl w.heap.size w)
  have HT := Aside0.mk hT
  clear hT
  have H : ((index_in.f a0 a1).bind fun t136 => (index_up.l0 k a0 a1 ([] : List Int) t136)) = some r := h
  clear h
  replace H := Option.bind_eq_some_iff.mp H
  obtain ⟨t136, A30, H⟩ := H
  replace H : (index_up.l0 k a0 a1 ([] : List Int) t136) = some r := H
  have A3 := Aside0.mk A30
  clear A30
  have H' := Aside0.mk H
  clear H
  go_enter Tryd.func45, Tryd.ntmps45
  go_wp2_with (first | ((with_reducible refine gate_callee (f := 58) rfl ?_); refine goesL_ (some 9) rfl rfl Tryd.func58 (by kernel_rfl) rfl #[.int .i64 a0, .int .i64 a1] rfl (by (try simp only [List.map_toArray, List.map_cons, List.map_nil]); first | done | rfl | (simp only [List.length_drop, List.length_take]; rfl)) ?_; (with_reducible refine (index_in.calls a0 a1 t136 _ A3.out).mono ?_); rintro e w' ⟨rfl, ⟨nd, rfl⟩⟩; refine ⟨_, rfl, ?_⟩))
  go_loopg [0, 5, 6] k (fun kq v0 v5 v6 w' => ∃ (x0_1 : Int) (x5_1 : List Int) (x6_1 : Bool), v0 = .int .i64 x0_1 ∧ v6 = .bool x6_1 ∧ Aside0 (index_up.l0 kq x0_1 a1 x5_1 x6_1 = some r) ∧ Aside0 (kq ≤ k) ∧ Aside0 (Kd.R (Kd.int .i64) 3 w' w.heap.size (fun _ => True) v5 x5_1) ∧ Aside0 (Below w.heap.size w w'))
  case atStart => exact ⟨(a0), (([] : List Int)), (t136), (by first | rfl | (simp; done) | (simp [*]; done)), (by first | rfl | (simp; done) | (simp [*]; done)), H', ⟨Nat.le_refl _⟩, ⟨by first | exact Kd.R_nil _ _ _ _ _ | exact Kd.N_nil _ _ _ _ _ | exact Kd.V_nil _ _ _ _ _ | exact Kd.Q_nil _ _ _ _ _ | exact Kd.S_nil _ _ _ _ _⟩, ⟨by repeat (first | (with_reducible first | exact HB.out | apply below_alloc | apply pw_below_drewN | apply below_drew1) | exact HB.out)⟩⟩
  case round =>
    clear H'
    try clear p2
    obtain ⟨x0_1, x5_1, x6_1, rfl, rfl, HA, HK1, HO_5, HB⟩ := hrel
    cases gk with
    | zero => exact absurd HA.out (by simp [index_up.l0])
    | succ k1 =>
      have H := HA.out
      clear HA
      simp only [index_up.l0] at H
      by_cases c4 : x6_1 = true
      · subst c4
        have H1 : (if x5_1.length < 17592186044416 then ((index_Parent.f x0_1 a1).bind fun bt140 => (index_up.l0 k1 bt140.1 a1 (x5_1 ++ [x0_1]) bt140.2)) else (none)) = some r := by rw [if_pos rfl] at H; exact H
        clear H
        have H := H1
        clear H1
        by_cases c5 : x5_1.length < 17592186044416
        · rw [if_pos c5] at H
          have LMc5 := Aside0.mk c5
          clear c5
          obtain ⟨y137, hy137⟩ : ∃ y_ : List Int, y_ = (x5_1 ++ [x0_1]) := ⟨_, rfl⟩
          replace H : ((index_Parent.f x0_1 a1).bind fun bt140 => (index_up.l0 k1 bt140.1 a1 y137 bt140.2)) = some r := by first | (rw [hy137]; with_reducible exact H) | (have H2_ := (Option.bind_some _ _).symm.trans H; rw [hy137]; with_reducible exact H2_) | (have H2_ := (Option.bind_some _ _).symm.trans H; with_reducible exact H2_) | with_reducible exact H | (rw [hy137]; exact H) | exact H
          have Ny137 := Aside0.mk hy137
          clear hy137
          replace H := Option.bind_eq_some_iff.mp H
          obtain ⟨⟨t140, t141⟩, A60, H⟩ := H
          replace H : (index_up.l0 k1 t140 a1 y137 t141) = some r := H
          have A6 := Aside0.mk A60
          clear A60
          have H' := Aside0.mk H
          clear H
          go_wp2_with (first | ((with_reducible refine gate_builtin (b := .append) (xs := #[.tmp 17, .tmp 19]) rfl ?_); at_builtin; refine Kd.R_append (Kd.int .i64) (w0 := w) w.heap.size rfl (.tmp 17) (.tmp 19) 32 3 (.int .i64 0) 8 rfl Tryd.underlying32 info3 rfl (by decide) (by omega) u5 x5_1 x0_1 [.int .i64 x0_1] (fun _ => True) (fun _ => False) rfl rfl ?aP (fun _ hk => hk.elim) ?aF ?aO ?aB ?aS ?aL ?_; (case aP => exact rfl); (case aB => exact (by repeat (first | (with_reducible first | exact HB.out | apply below_alloc | apply pw_below_drewN | apply below_drew1) | exact HB.out))); (case aF => exact (fun _ _ => trivial)); (case aO => exact (by (with_reducible repeat (first | apply Kd.R_alloc | apply Kd.R_drewN | apply Kd.R_drew)); exact HO_5.out)); (case aS => exact (below_size (by repeat (first | (with_reducible first | exact HB.out | apply below_alloc | apply pw_below_drewN | apply below_drew1) | exact HB.out)))); (case aL => have := LMc5.out; omega); intro v138 w7 ho hb hg hat; rw [← Ny137.out] at ho; have n0_ := Aside0.mk (hb); have n1_ := Aside0.mk (ho); clear HB; clear HO_5; have HB := n0_; have HO139 := n1_; clear n0_ n1_; clear ho hb hg hat) | ((with_reducible refine gate_callee (f := 59) rfl ?_); refine goesL_ (some 14) rfl rfl Tryd.func59 (by kernel_rfl) rfl #[.int .i64 x0_1, .int .i64 a1] rfl (by (try simp only [List.map_toArray, List.map_cons, List.map_nil]); first | done | rfl | (simp only [List.length_drop, List.length_take]; rfl)) ?_; (with_reducible refine (index_Parent.calls x0_1 a1 t140 t141 _ ?side1 A6.out).mono ?_); (case side1 => repeat (first | exact HT.out | exact TabG.below HT.out HB.out | (with_reducible refine TabG.alloc ?_ _) | (with_reducible refine TabG.drewN ?_ _) | (with_reducible refine TabG.drew ?_) | exact TabG.below HT.out (by repeat (first | (with_reducible first | exact HB.out | apply below_alloc | apply pw_below_drewN | apply below_drew1) | exact HB.out)))); rintro e w' ⟨rfl, ⟨nd, rfl⟩⟩; refine ⟨_, rfl, ?_⟩))
          go_roundg k1
          case measure => have := HK1.out; omega
          case rel => exact ⟨(t140), (y137), (t141), (by first | rfl | (simp; done) | (simp [*]; done)), (by first | rfl | (simp; done) | (simp [*]; done)), H', ⟨by have := HK1.out; omega⟩, ⟨by (with_reducible repeat (first | apply Kd.R_alloc | apply Kd.R_drewN | apply Kd.R_drew)); exact HO139.out⟩, ⟨by repeat (first | (with_reducible first | exact HB.out | apply below_alloc | apply pw_below_drewN | apply below_drew1) | exact HB.out)⟩⟩
        · rw [if_neg c5] at H
          exact absurd H (by simp)
      · replace c4 := Bool.eq_false_iff.mpr c4
        subst c4
        have H1 : (some x5_1) = some r := by rw [if_neg (show ¬ (false = true) by decide)] at H; exact H
        clear H
        have H := H1
        clear H1
        obtain rfl := Option.some.inj H
        go_wp2
        go_ret
        exact ⟨_, by first | rfl | (simp [errW_none, errW_some] <;> rfl) | (simp [*, errW_none, errW_some] <;> rfl), by (with_reducible repeat (first | apply Kd.R_alloc | apply Kd.R_drewN | apply Kd.R_drew)); exact HO_5.out, by repeat (first | (with_reducible first | exact HB.out | apply below_alloc | apply pw_below_drewN | apply below_drew1) | exact HB.out)⟩
section
def dirL (n i : Nat) : List Nat := if n = 2 then [1] else if n = 4 then [i / 2 * 4 + 1, 3] else if n = 8 then [i / 2 * 4 + 1, i / 4 * 8 + 3, 7] else []
def upOk (n i : Nat) : Bool := decide (index_up.f 10 (2 * (i : Int)) (n : Int) = some ((2 * (i : Int)) :: (dirL n i).map (fun (x : Nat) => (x : Int))))
theorem up_all : ([1, 2, 4, 8].all fun n => (List.range n).all fun i => upOk n i) = true := by decide +kernel
theorem up_at (n i : Nat) (hn : n = 1 ∨ n = 2 ∨ n = 4 ∨ n = 8) (hi : i < n) : index_up.f 10 (2 * (i : Int)) (n : Int) = some ((2 * (i : Int)) :: (dirL n i).map (fun (x : Nat) => (x : Int))) := by
  have h1 := List.all_eq_true.1 up_all n (by rcases hn with rfl | rfl | rfl | rfl <;> simp)
  exact of_decide_eq_true (List.all_eq_true.1 h1 i (List.mem_range.2 hi))
theorem dirL_len (n i : Nat) : (dirL n i).length ≤ 3 := by unfold dirL; split <;> (try split) <;> (try split) <;> simp
theorem C_tail {w : World} {ad : Addr} {x : Int} {xs : List Int} (h : Kd.C (Kd.int .i64) w (some ad) (xs.length + 1) (x :: xs)) (hp : 0 < xs.length) : Kd.C (Kd.int .i64) w (some ⟨ad.block, ad.off + 1, none⟩) xs.length xs := by
  have h2 := Kd.C_drop (m := 1) (c := xs.length + 1) h (by simp) (by simp)
  rw [if_neg (by omega)] at h2
  have h3 : ad.add (1 * (Kd.int .i64).sz) = ⟨ad.block, ad.off + 1, none⟩ := by
    show ad.add 1 = _
    unfold Addr.add
    rw [if_neg (by omega)]
  simp only [Option.map_some, List.drop_succ_cons, List.drop_zero, h3] at h2
  exact h2
set_option maxRecDepth 100000 in
theorem direct_one (w : World) (HT : Aside0 (TabG w)) : Calls Tryd.prog 31 #[.int .i64 0, .int .i64 1] w fun e w' => e = .returned (.slice none 0 0) ∧ Below w.heap.size w w' := by
  have HU := Aside0.mk (up_at 1 0 (by simp) (by omega))
  go_enter Tryd.func31, Tryd.ntmps31
  go_wp2_with (go_at_call 45; refine (index_up.calls 10 _ _ _ _ HT.out HU.out).mono ?_; rintro e w1 ⟨v0, rfl, ho, hb⟩; obtain ⟨Av, cv, rfl⟩ := Kd.R_slice ho; have HB := Aside0.mk hb; clear ho hb)
  go_ret
  exact ⟨rfl, HB.out⟩
set_option maxRecDepth 100000 in
theorem direct_more (n i : Nat) (hn : n = 2 ∨ n = 4 ∨ n = 8) (hi : i < n) (w : World) (HT : Aside0 (TabG w)) : Calls Tryd.prog 31 #[.int .i64 (2 * (i : Int)), .int .i64 (n : Int)] w fun e w' => ∃ A c, e = .returned (.slice A (dirL n i).length c) ∧ (dirL n i).length ≤ c ∧ Kd.C (Kd.int .i64) w' A (dirL n i).length ((dirL n i).map (fun (x : Nat) => (x : Int))) ∧ Below w.heap.size w w' := by
  have HU := Aside0.mk (up_at n i (by omega) hi)
  have hl : 1 ≤ (dirL n i).length := by unfold dirL; rcases hn with rfl | rfl | rfl <;> simp
  have hl3 := dirL_len n i
  clear hn
  generalize hd : (dirL n i).map (fun (x : Nat) => (x : Int)) = ds at HU
  have hdl : ds.length = (dirL n i).length := by rw [← hd]; simp
  have HD := Aside0.mk hd
  generalize (dirL n i).length = m at hl hl3 hdl
  have HDL := Aside0.mk hdl
  clear hd hdl
  go_enter Tryd.func31, Tryd.ntmps31
  go_wp2_with (go_at_call 45; refine (index_up.calls 10 _ _ _ _ HT.out HU.out).mono ?_; rintro e w1 ⟨v0, rfl, ho, hb⟩; obtain ⟨Av, cv, rfl, hlc, hC⟩ := Kd.R_reads ho; simp only [List.length_cons, HDL.out] at hlc hC ⊢; obtain ⟨ad, rfl, _⟩ := hC.2.2 (by omega); have HB := Aside0.mk hb; have HC := Aside0.mk hC; clear ho hb hC)
  refine bodyPost_ret (v := .slice (some ⟨ad.block, ad.off + 1, none⟩) m m) (by simp [results, Tryd.results31, go_sem]) rfl ⟨_, m, rfl, Nat.le_refl _, ?_, HB.out⟩
  have h := HC.out
  rw [← HDL.out] at h ⊢
  exact C_tail h (by have := HDL.out; omega)
end
def cmp_isNaN_int.f (a0 : Int) : Option (Bool) := some (a0 != a0)
set_option maxHeartbeats 8000000 in
set_option maxRecDepth 100000 in
theorem cmp_isNaN_int.calls (a0 : Int) (r : Bool) (w : World) (h : cmp_isNaN_int.f a0 = some r) :
    Calls Tryd.prog 60 #[.int .i64 a0] w fun e w' => e = .returned (.bool r) ∧ Drawn0 w w' := by
  have H : (some (a0 != a0)) = some r := h
  clear h
  obtain rfl := Option.some.inj H
  go_enter Tryd.func60, Tryd.ntmps60
  go_wp2
  go_ret
  exact ⟨by first | rfl | (simp; done) | (simp [*]; done), by repeat (first | exact Drawn0.refl _ | apply Drawn0.step)⟩
def cmp_Less_int.f (a0 : Int) (a1 : Int) : Option (Bool) := (cmp_isNaN_int.f a0).bind fun t142 => (if t142 = true then ((cmp_isNaN_int.f a1).bind fun t143 => (if t143 = true then (some (decide (a0 < a1))) else (some true))) else (some (decide (a0 < a1))))
set_option maxHeartbeats 8000000 in
set_option maxRecDepth 100000 in
theorem cmp_Less_int.calls (a0 : Int) (a1 : Int) (r : Bool) (w : World) (h : cmp_Less_int.f a0 a1 = some r) :
    Calls Tryd.prog 46 #[.int .i64 a0, .int .i64 a1] w fun e w' => e = .returned (.bool r) ∧ Drawn0 w w' := by
  have H : ((cmp_isNaN_int.f a0).bind fun t142 => (if t142 = true then ((cmp_isNaN_int.f a1).bind fun t143 => (if t143 = true then (some (decide (a0 < a1))) else (some true))) else (some (decide (a0 < a1))))) = some r := h
  clear h
  replace H := Option.bind_eq_some_iff.mp H
  obtain ⟨t142, A30, H⟩ := H
  replace H : (if t142 = true then ((cmp_isNaN_int.f a1).bind fun t143 => (if t143 = true then (some (decide (a0 < a1))) else (some true))) else (some (decide (a0 < a1)))) = some r := H
  have A3 := Aside0.mk A30
  clear A30
  by_cases c4 : t142 = true
  · subst c4
    have H1 : ((cmp_isNaN_int.f a1).bind fun t143 => (if t143 = true then (some (decide (a0 < a1))) else (some true))) = some r := by rw [if_pos rfl] at H; exact H
    clear H
    have H := H1
    clear H1
    replace H := Option.bind_eq_some_iff.mp H
    obtain ⟨t143, A50, H⟩ := H
    replace H : (if t143 = true then (some (decide (a0 < a1))) else (some true)) = some r := H
    have A5 := Aside0.mk A50
    clear A50
    by_cases c6 : t143 = true
    · subst c6
      have H1 : (some (decide (a0 < a1))) = some r := by rw [if_pos rfl] at H; exact H
      clear H
      have H := H1
      clear H1
      obtain rfl := Option.some.inj H
      go_enter Tryd.func46, Tryd.ntmps46
      go_wp2_with (first | ((with_reducible refine gate_callee (f := 60) rfl ?_); refine goesL_ (some 6) rfl rfl Tryd.func60 (by kernel_rfl) rfl #[.int .i64 a0] rfl (by (try simp only [List.map_toArray, List.map_cons, List.map_nil]); first | done | rfl | (simp only [List.length_drop, List.length_take]; rfl)) ?_; (with_reducible refine (cmp_isNaN_int.calls a0 true _ A3.out).mono ?_); rintro e w' ⟨rfl, ⟨nd, rfl⟩⟩; refine ⟨_, rfl, ?_⟩) | (go_at_call 60; (with_reducible refine (cmp_isNaN_int.calls a1 true _ A5.out).mono ?_); rintro e w' ⟨rfl, ⟨nd, rfl⟩⟩))
      go_ret
      exact ⟨by first | rfl | (simp; done) | (simp [*]; done), by repeat (first | exact Drawn0.refl _ | apply Drawn0.step)⟩
    · replace c6 := Bool.eq_false_iff.mpr c6
      subst c6
      have H1 : (some true) = some r := by rw [if_neg (show ¬ (false = true) by decide)] at H; exact H
      clear H
      have H := H1
      clear H1
      obtain rfl := Option.some.inj H
      go_enter Tryd.func46, Tryd.ntmps46
      go_wp2_with (first | ((with_reducible refine gate_callee (f := 60) rfl ?_); refine goesL_ (some 6) rfl rfl Tryd.func60 (by kernel_rfl) rfl #[.int .i64 a0] rfl (by (try simp only [List.map_toArray, List.map_cons, List.map_nil]); first | done | rfl | (simp only [List.length_drop, List.length_take]; rfl)) ?_; (with_reducible refine (cmp_isNaN_int.calls a0 true _ A3.out).mono ?_); rintro e w' ⟨rfl, ⟨nd, rfl⟩⟩; refine ⟨_, rfl, ?_⟩) | (go_at_call 60; (with_reducible refine (cmp_isNaN_int.calls a1 false _ A5.out).mono ?_); rintro e w' ⟨rfl, ⟨nd, rfl⟩⟩))
      go_ret
      exact ⟨by first | rfl | (simp; done) | (simp [*]; done), by repeat (first | exact Drawn0.refl _ | apply Drawn0.step)⟩
  · replace c4 := Bool.eq_false_iff.mpr c4
    subst c4
    have H1 : (some (decide (a0 < a1))) = some r := by rw [if_neg (show ¬ (false = true) by decide)] at H; exact H
    clear H
    have H := H1
    clear H1
    obtain rfl := Option.some.inj H
    go_enter Tryd.func46, Tryd.ntmps46
    go_wp2_with (first | ((with_reducible refine gate_callee (f := 60) rfl ?_); refine goesL_ (some 6) rfl rfl Tryd.func60 (by kernel_rfl) rfl #[.int .i64 a0] rfl (by (try simp only [List.map_toArray, List.map_cons, List.map_nil]); first | done | rfl | (simp only [List.length_drop, List.length_take]; rfl)) ?_; (with_reducible refine (cmp_isNaN_int.calls a0 false _ A3.out).mono ?_); rintro e w' ⟨rfl, ⟨nd, rfl⟩⟩; refine ⟨_, rfl, ?_⟩))
    go_ret
    exact ⟨by first | rfl | (simp; done) | (simp [*]; done), by repeat (first | exact Drawn0.refl _ | apply Drawn0.step)⟩
def slices_isNaN_int.f (a0 : Int) : Option (Bool) := some (a0 != a0)
set_option maxHeartbeats 8000000 in
set_option maxRecDepth 100000 in
theorem slices_isNaN_int.calls (a0 : Int) (r : Bool) (w : World) (h : slices_isNaN_int.f a0 = some r) :
    Calls Tryd.prog 47 #[.int .i64 a0] w fun e w' => e = .returned (.bool r) ∧ Drawn0 w w' := by
  have H : (some (a0 != a0)) = some r := h
  clear h
  obtain rfl := Option.some.inj H
  go_enter Tryd.func47, Tryd.ntmps47
  go_wp2
  go_ret
  exact ⟨by first | rfl | (simp; done) | (simp [*]; done), by repeat (first | exact Drawn0.refl _ | apply Drawn0.step)⟩
def slices_BinarySearch_int_int.l0 : Nat → List Int → Int → Int → Int → Int → Option (Int × Bool)
  | 0, _, _, _, _, _ => none
  | k + 1, x0, x1, x6, x7, x8 => if x7 < x8 then (if 0 ≤ (wrap64 ((IntKind.u64.wrap (wrap64 (x7 + x8))) / 2)) then (if (wrap64 ((IntKind.u64.wrap (wrap64 (x7 + x8))) / 2)) < (x0.length : Int) then ((cmp_Less_int.f (rd x0 (wrap64 ((IntKind.u64.wrap (wrap64 (x7 + x8))) / 2))) x1).bind fun t145 => (if t145 = true then (slices_BinarySearch_int_int.l0 k x0 x1 x6 (wrap64 ((wrap64 ((IntKind.u64.wrap (wrap64 (x7 + x8))) / 2)) + 1)) x8) else (slices_BinarySearch_int_int.l0 k x0 x1 x6 x7 (wrap64 ((IntKind.u64.wrap (wrap64 (x7 + x8))) / 2))))) else (none)) else (none)) else (if x7 < x6 then (if 0 ≤ x7 then (if x7 < (x0.length : Int) then (if (rd x0 x7) = x1 then (some (x7, true)) else ((slices_isNaN_int.f (rd x0 x7)).bind fun t148 => (if t148 = true then ((slices_isNaN_int.f x1).bind fun t149 => (some (x7, t149))) else (some (x7, false))))) else (none)) else (none)) else (some (x7, false)))
def slices_BinarySearch_int_int.f (k : Nat) (l0 : List Int) (a1 : Int) : Option (Int × Bool) := slices_BinarySearch_int_int.l0 k l0 a1 (l0.length : Int) 0 (l0.length : Int)
theorem slices_BinarySearch_int_int.mono_l : ∀ k, (∀ y0 y1 y2 y3 y4, LeO (slices_BinarySearch_int_int.l0 k y0 y1 y2 y3 y4) (slices_BinarySearch_int_int.l0 (k + 1) y0 y1 y2 y3 y4))
  | 0 => fun _ _ _ _ _ r h => by simp [slices_BinarySearch_int_int.l0] at h
  | k + 1 => by
    have ih0 := slices_BinarySearch_int_int.mono_l k
    · intro y0 y1 y2 y3 y4
      unfold slices_BinarySearch_int_int.l0
      repeat' first
      | (with_reducible exact ih0 _ _ _ _ _)
      | (with_reducible exact LeO.refl _)
      | (with_reducible exact LeO.none _)
      | (with_reducible refine LeO.ite ?_ ?_)
      | (with_reducible refine LeO.bind ?_ (fun _ => ?_))
      | exact ih0 _ _ _ _ _
      | exact LeO.none _
      | refine LeO.ite ?_ ?_
      | refine LeO.bind ?_ (fun _ => ?_)
theorem slices_BinarySearch_int_int.mono : ∀ a0 a1 k, LeO (slices_BinarySearch_int_int.f k a0 a1) (slices_BinarySearch_int_int.f (k + 1) a0 a1) := by
  intro a0 a1 k
  have ih0 := slices_BinarySearch_int_int.mono_l k
  unfold slices_BinarySearch_int_int.f
  repeat' first
      | (with_reducible exact ih0 _ _ _ _ _)
      | (with_reducible exact LeO.refl _)
      | (with_reducible exact LeO.none _)
      | (with_reducible refine LeO.ite ?_ ?_)
      | (with_reducible refine LeO.bind ?_ (fun _ => ?_))
      | exact ih0 _ _ _ _ _
      | exact LeO.none _
      | refine LeO.ite ?_ ?_
      | refine LeO.bind ?_ (fun _ => ?_)
set_option maxHeartbeats 8000000 in
set_option maxRecDepth 100000 in
theorem slices_BinarySearch_int_int.calls (k : Nat) (A0 : Option Addr) (c0 : Nat) (l0 : List Int) (a1 : Int) (r1 : Int) (r2 : Bool) (w : World) (hr0 : Kd.C (Kd.int .i64) w A0 l0.length l0) (hc0 : l0.length ≤ c0) (h : slices_BinarySearch_int_int.f k l0 a1 = some (r1, r2)) :
    Calls Tryd.prog 32 #[.slice A0 l0.length c0, .int .i64 a1] w fun e w' => e = .returned (.tuple #[.int .i64 r1, .bool r2]) ∧ Drawn0 w w' := by
  have HR0 := Aside0.mk hr0
  have HC0 := Aside0.mk hc0
  clear hr0 hc0
  have H : (slices_BinarySearch_int_int.l0 k l0 a1 (l0.length : Int) 0 (l0.length : Int)) = some (r1, r2) := h
  clear h
  have H' := Aside0.mk H
  clear H
  go_enter Tryd.func32, Tryd.ntmps32
  go_wp2
  go_loopg [7, 8] k (fun kq v7 v8 w' => ∃ (x7_1 : Int) (x8_1 : Int), v7 = .int .i64 x7_1 ∧ v8 = .int .i64 x8_1 ∧ Aside0 (slices_BinarySearch_int_int.l0 kq l0 a1 (l0.length : Int) x7_1 x8_1 = some (r1, r2)) ∧ Aside0 (kq ≤ k) ∧ Drawn0 w w')
  case atStart => exact ⟨(0), ((l0.length : Int)), (by first | rfl | (simp; done) | (simp [*]; done)), (by first | rfl | (simp; done) | (simp [*]; done)), H', ⟨Nat.le_refl _⟩, by repeat (first | exact Drawn0.refl _ | apply Drawn0.step)⟩
  case round =>
    clear H'
    try clear p2
    obtain ⟨x7_1, x8_1, rfl, rfl, HA, HK1, ⟨m1, rfl⟩⟩ := hrel
    cases gk with
    | zero => exact absurd HA.out (by simp [slices_BinarySearch_int_int.l0])
    | succ k1 =>
      have H := HA.out
      clear HA
      simp only [slices_BinarySearch_int_int.l0] at H
      by_cases c3 : x7_1 < x8_1
      · rw [if_pos c3] at H
        have c3b0 : decide (x7_1 < x8_1) = true := decide_eq_true c3
        clear c3
        obtain ⟨ji4, hji4⟩ : ∃ j_ : Int, (wrap64 ((IntKind.u64.wrap (wrap64 (x7_1 + x8_1))) / 2)) = j_ := ⟨_, rfl⟩
        replace H : (if 0 ≤ (ji4) then (if (ji4) < (l0.length : Int) then ((cmp_Less_int.f (rd l0 (ji4)) a1).bind fun t145 => (if t145 = true then (slices_BinarySearch_int_int.l0 k1 l0 a1 (l0.length : Int) (wrap64 ((ji4) + 1)) x8_1) else (slices_BinarySearch_int_int.l0 k1 l0 a1 (l0.length : Int) x7_1 ji4))) else (none)) else (none)) = some (r1, r2) := by first | (rw [hji4] at H; exact H) | (simp only [hji4] at H ⊢; exact H)
        have hji4w : (IntKind.i64.wrap ((IntKind.u64.wrap (wrap64 (x7_1 + x8_1))) / 2)) = ji4 := (i64_w _).trans hji4
        by_cases c5 : 0 ≤ (ji4)
        · rw [if_pos c5] at H
          have c5b0 : decide (0 ≤ (ji4)) = true := decide_eq_true c5
          clear c5
          by_cases c6 : (ji4) < (l0.length : Int)
          · rw [if_pos c6] at H
            have c6b0 : decide ((ji4) < (l0.length : Int)) = true := decide_eq_true c6
            clear c6
            replace H := Option.bind_eq_some_iff.mp H
            obtain ⟨t145, A70, H⟩ := H
            replace H : (if t145 = true then (slices_BinarySearch_int_int.l0 k1 l0 a1 (l0.length : Int) (wrap64 ((ji4) + 1)) x8_1) else (slices_BinarySearch_int_int.l0 k1 l0 a1 (l0.length : Int) x7_1 ji4)) = some (r1, r2) := H
            have A7 := Aside0.mk A70
            clear A70
            by_cases c8 : t145 = true
            · subst c8
              have H1 : (slices_BinarySearch_int_int.l0 k1 l0 a1 (l0.length : Int) (wrap64 ((ji4) + 1)) x8_1) = some (r1, r2) := by rw [if_pos rfl] at H; exact H
              clear H
              have H := H1
              clear H1
              have H' := Aside0.mk H
              clear H
              have p144 : 0 ≤ ((ji4) : Int) := of_decide_eq_true (by first | (with_reducible assumption) | assumption)
              have q144 : (ji4) < (l0.length : Int) := of_decide_eq_true (by first | (with_reducible assumption) | assumption)
              obtain ⟨ad144, e144, hx144_0⟩ := Kd.at_int HR0.out (ji4) p144 q144
              cases e144
              replace p144 := eq_true p144
              replace q144 := eq_true q144
              go_wp2_with (first | ((with_reducible refine gate_callee (f := 46) rfl ?_); refine goesL_ (some 27) rfl rfl Tryd.func46 (by kernel_rfl) rfl #[.int .i64 (rd l0 (ji4)), .int .i64 a1] rfl (by (try simp only [List.map_toArray, List.map_cons, List.map_nil]); first | done | (simp only [hji4]; rfl) | rfl | (simp only [List.length_drop, List.length_take]; rfl)) ?_; (with_reducible refine (cmp_Less_int.calls (rd l0 (ji4)) a1 true _ A7.out).mono ?_); rintro e w' ⟨rfl, ⟨nd, rfl⟩⟩; refine ⟨_, rfl, ?_⟩))
              go_roundg k1
              case measure => have := HK1.out; omega
              case rel => exact ⟨(wrap64 ((ji4) + 1)), (x8_1), (by first | rfl | (simp; done) | (simp only [← hji4] <;> (first | rfl | simp)) | (simp [*]; done)), (by first | rfl | (simp; done) | (simp [*]; done)), H', ⟨by have := HK1.out; omega⟩, by repeat (first | exact Drawn0.refl _ | apply Drawn0.step)⟩
            · replace c8 := Bool.eq_false_iff.mpr c8
              subst c8
              have H1 : (slices_BinarySearch_int_int.l0 k1 l0 a1 (l0.length : Int) x7_1 ji4) = some (r1, r2) := by rw [if_neg (show ¬ (false = true) by decide)] at H; exact H
              clear H
              have H := H1
              clear H1
              have H' := Aside0.mk H
              clear H
              have p144 : 0 ≤ ((ji4) : Int) := of_decide_eq_true (by first | (with_reducible assumption) | assumption)
              have q144 : (ji4) < (l0.length : Int) := of_decide_eq_true (by first | (with_reducible assumption) | assumption)
              obtain ⟨ad144, e144, hx144_0⟩ := Kd.at_int HR0.out (ji4) p144 q144
              cases e144
              replace p144 := eq_true p144
              replace q144 := eq_true q144
              go_wp2_with (first | ((with_reducible refine gate_callee (f := 46) rfl ?_); refine goesL_ (some 27) rfl rfl Tryd.func46 (by kernel_rfl) rfl #[.int .i64 (rd l0 (ji4)), .int .i64 a1] rfl (by (try simp only [List.map_toArray, List.map_cons, List.map_nil]); first | done | (simp only [hji4]; rfl) | rfl | (simp only [List.length_drop, List.length_take]; rfl)) ?_; (with_reducible refine (cmp_Less_int.calls (rd l0 (ji4)) a1 false _ A7.out).mono ?_); rintro e w' ⟨rfl, ⟨nd, rfl⟩⟩; refine ⟨_, rfl, ?_⟩))
              go_roundg k1
              case measure => have := HK1.out; omega
              case rel => exact ⟨(x7_1), (ji4), (by first | rfl | (simp; done) | (simp [*]; done)), (by first | rfl | (simp; done) | (simp only [← hji4] <;> (first | rfl | simp)) | (simp [*]; done)), H', ⟨by have := HK1.out; omega⟩, by repeat (first | exact Drawn0.refl _ | apply Drawn0.step)⟩
          · rw [if_neg c6] at H
            exact absurd H (by simp)
        · rw [if_neg c5] at H
          exact absurd H (by simp)
      · rw [if_neg c3] at H
        have c3b0 : decide (x7_1 < x8_1) = false := decide_eq_false c3
        clear c3
        by_cases c9 : x7_1 < (l0.length : Int)
        · rw [if_pos c9] at H
          have c9b0 : decide (x7_1 < (l0.length : Int)) = true := decide_eq_true c9
          clear c9
          by_cases c10 : 0 ≤ x7_1
          · rw [if_pos c10] at H
            have c10b0 : decide (0 ≤ x7_1) = true := decide_eq_true c10
            clear c10
            by_cases c11 : x7_1 < (l0.length : Int)
            · rw [if_pos c11] at H
              have c11b0 : decide (x7_1 < (l0.length : Int)) = true := decide_eq_true c11
              clear c11
              by_cases c12 : (rd l0 x7_1) = a1
              · rw [if_pos c12] at H
                have c12b0 : ((rd l0 x7_1) == a1) = true := beq_iff_eq.mpr c12
                have c12b1 : ((rd l0 x7_1) != a1) = false := bne_eq_false_iff_eq.mpr c12
                clear c12
                simp only [Option.some.injEq, Prod.mk.injEq] at H
                obtain ⟨rfl, rfl⟩ := H
                have p146 : 0 ≤ (x7_1 : Int) := of_decide_eq_true (by first | (with_reducible assumption) | assumption)
                have q146 : x7_1 < (l0.length : Int) := of_decide_eq_true (by first | (with_reducible assumption) | assumption)
                obtain ⟨ad146, e146, hx146_0⟩ := Kd.at_int HR0.out x7_1 p146 q146
                cases e146
                replace p146 := eq_true p146
                replace q146 := eq_true q146
                go_wp2
                go_ret2
                exact ⟨by first | rfl | (simp; done) | (simp [*]; done), by repeat (first | exact Drawn0.refl _ | apply Drawn0.step)⟩
              · rw [if_neg c12] at H
                have c12b0 : ((rd l0 x7_1) == a1) = false := beq_eq_false_iff_ne.mpr c12
                have c12b1 : ((rd l0 x7_1) != a1) = true := bne_iff_ne.mpr c12
                replace H := Option.bind_eq_some_iff.mp H
                obtain ⟨t148, A130, H⟩ := H
                replace H : (if t148 = true then ((slices_isNaN_int.f a1).bind fun t149 => (some (x7_1, t149))) else (some (x7_1, false))) = some (r1, r2) := H
                have A13 := Aside0.mk A130
                clear A130
                by_cases c14 : t148 = true
                · subst c14
                  have H1 : ((slices_isNaN_int.f a1).bind fun t149 => (some (x7_1, t149))) = some (r1, r2) := by rw [if_pos rfl] at H; exact H
                  clear H
                  have H := H1
                  clear H1
                  replace H := Option.bind_eq_some_iff.mp H
                  obtain ⟨t149, A150, H⟩ := H
                  replace H : (some (x7_1, t149)) = some (r1, r2) := H
                  have A15 := Aside0.mk A150
                  clear A150
                  simp only [Option.some.injEq, Prod.mk.injEq] at H
                  obtain ⟨rfl, rfl⟩ := H
                  have p146 : 0 ≤ (x7_1 : Int) := of_decide_eq_true (by first | (with_reducible assumption) | assumption)
                  have q146 : x7_1 < (l0.length : Int) := of_decide_eq_true (by first | (with_reducible assumption) | assumption)
                  obtain ⟨ad146, e146, hx146_0⟩ := Kd.at_int HR0.out x7_1 p146 q146
                  cases e146
                  replace p146 := eq_true p146
                  replace q146 := eq_true q146
                  have p147 : 0 ≤ (x7_1 : Int) := of_decide_eq_true (by first | (with_reducible assumption) | assumption)
                  have q147 : x7_1 < (l0.length : Int) := of_decide_eq_true (by first | (with_reducible assumption) | assumption)
                  obtain ⟨ad147, e147, hx147_0⟩ := Kd.at_int HR0.out x7_1 p147 q147
                  obtain rfl : ad146 = ad147 := (by injection e147)
                  replace p147 := eq_true p147
                  replace q147 := eq_true q147
                  go_wp2_with (first | (go_at_call 47; (with_reducible refine (slices_isNaN_int.calls (rd l0 x7_1) true _ A13.out).mono ?_); rintro e w' ⟨rfl, ⟨nd, rfl⟩⟩) | (go_at_call 47; (with_reducible refine (slices_isNaN_int.calls a1 t149 _ A15.out).mono ?_); rintro e w' ⟨rfl, ⟨nd, rfl⟩⟩))
                  go_ret2
                  exact ⟨by first | rfl | (simp; done) | (simp [*]; done), by repeat (first | exact Drawn0.refl _ | apply Drawn0.step)⟩
                · replace c14 := Bool.eq_false_iff.mpr c14
                  subst c14
                  have H1 : (some (x7_1, false)) = some (r1, r2) := by rw [if_neg (show ¬ (false = true) by decide)] at H; exact H
                  clear H
                  have H := H1
                  clear H1
                  simp only [Option.some.injEq, Prod.mk.injEq] at H
                  obtain ⟨rfl, rfl⟩ := H
                  have p146 : 0 ≤ (x7_1 : Int) := of_decide_eq_true (by first | (with_reducible assumption) | assumption)
                  have q146 : x7_1 < (l0.length : Int) := of_decide_eq_true (by first | (with_reducible assumption) | assumption)
                  obtain ⟨ad146, e146, hx146_0⟩ := Kd.at_int HR0.out x7_1 p146 q146
                  cases e146
                  replace p146 := eq_true p146
                  replace q146 := eq_true q146
                  have p147 : 0 ≤ (x7_1 : Int) := of_decide_eq_true (by first | (with_reducible assumption) | assumption)
                  have q147 : x7_1 < (l0.length : Int) := of_decide_eq_true (by first | (with_reducible assumption) | assumption)
                  obtain ⟨ad147, e147, hx147_0⟩ := Kd.at_int HR0.out x7_1 p147 q147
                  obtain rfl : ad146 = ad147 := (by injection e147)
                  replace p147 := eq_true p147
                  replace q147 := eq_true q147
                  go_wp2_with (first | (go_at_call 47; (with_reducible refine (slices_isNaN_int.calls (rd l0 x7_1) false _ A13.out).mono ?_); rintro e w' ⟨rfl, ⟨nd, rfl⟩⟩))
                  go_ret2
                  exact ⟨by first | rfl | (simp; done) | (simp [*]; done), by repeat (first | exact Drawn0.refl _ | apply Drawn0.step)⟩
            · rw [if_neg c11] at H
              exact absurd H (by simp)
          · rw [if_neg c10] at H
            exact absurd H (by simp)
        · rw [if_neg c9] at H
          have c9b0 : decide (x7_1 < (l0.length : Int)) = false := decide_eq_false c9
          clear c9
          simp only [Option.some.injEq, Prod.mk.injEq] at H
          obtain ⟨rfl, rfl⟩ := H
          go_wp2
          go_ret2
          exact ⟨by first | rfl | (simp; done) | (simp [*]; done), by repeat (first | exact Drawn0.refl _ | apply Drawn0.step)⟩
end Go.Proofs.YtfgalpfiggnkpaaDoor.PT
