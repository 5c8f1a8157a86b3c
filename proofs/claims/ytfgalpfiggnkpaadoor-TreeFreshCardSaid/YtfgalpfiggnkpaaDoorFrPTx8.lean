/- What treeFresh_card uses of the printed words and contracts. -/
import Derived.Test.YtfgalpfiggnkpaaDoorFrPTx0
import Derived.Test.YtfgalpfiggnkpaaDoorFrPTx3
import Derived.Test.YtfgalpfiggnkpaaDoorFrPTx4
import Derived.Test.YtfgalpfiggnkpaaDoorFrPTx6
namespace Go.Proofs.YtfgalpfiggnkpaaDoor.PT
open Go.RowKit Go.Proofs.YtfgalpfiggnkpaaDoorW.PrintWords Go.Proofs.YtfgalpfiggnkpaaDoorW.PrintLast Go.Proofs.YtfgalpfiggnkpaaDoorW.PrintMore
attribute [local go_sem] max2_int min2_int max_two min_two max_three min_three max_four min_four   -- for this text's walks alone
set_option linter.unusedVariables false
set_option linter.unusedSimpArgs false
section
set_option maxRecDepth 100000 in
theorem idx_go (A : Option Addr) (c : Nat) (zs : List Int) (x : Int) (w : World) (HR : Aside0 (Kd.C (Kd.int .i64) w A zs.length zs)) (hz : zs.length ≤ 1000) :
    Calls Tryd.prog 55 #[.slice A zs.length c, .int .i64 x] w fun e w' => ∃ r : Int, e = .returned (.int .i64 r) ∧ (0 ≤ r ↔ x ∈ zs) ∧ w' = w := by
  go_enter Tryd.func55, Tryd.ntmps55
  go_wp2
  go_loopw [8] (fun v8 wr => ∃ k : Nat, k ≤ zs.length ∧ v8 = .int .i64 k ∧ Aside0 (x ∉ zs.take k) ∧ wr = w) (fun v8 _ => zs.length - (intOf v8).toNat)
  case atStart => exact ⟨0, Nat.zero_le _, rfl, ⟨by simp⟩, rfl⟩
  case round =>
    obtain ⟨k, hk, rfl, HN, rfl⟩ := hrel
    by_cases hlt : k < zs.length
    · obtain ⟨al, el, hxl⟩ := Kd.at_int HR.out (k : Int) (by omega) (by omega)
      cases el
      rw [Int.toNat_natCast] at hxl
      have hget : rd zs (k : Int) = zs[k] := by unfold rd; simp [hlt]
      generalize hE : rd zs (k : Int) = E at *
      have HG := Aside0.mk hget
      clear hget hE
      by_cases he : x = E
      · have hb : (x == E) = true := by simp [he]
        go_wp2
        refine bodyPost_ret (v := .int .i64 k) (by simp [results, Tryd.results55, go_sem]) rfl ⟨k, rfl, ⟨fun _ => by rw [he, HG.out]; exact List.getElem_mem _, fun _ => by omega⟩, rfl⟩
      · have hb : (x == E) = false := by simp [he]
        go_wp2
        go_roundw
        case rel =>
          refine ⟨k + 1, by omega, by go_num, ⟨?_⟩, by first | rfl | trivial⟩
          rw [List.take_succ_eq_append_getElem hlt]
          intro h
          rcases List.mem_append.1 h with h | h
          · exact HN.out h
          · exact he (by rw [HG.out]; exact List.mem_singleton.1 h)
        case measure => simp [intOf]; omega
    · obtain rfl : k = zs.length := by omega
      have hn := HN.out
      rw [List.take_length] at hn
      have HN2 := Aside0.mk hn
      clear hn
      go_wp2
      refine bodyPost_ret (v := .int .i64 (-1)) (by simp [results, Tryd.results55, go_sem]) rfl ⟨-1, rfl, ⟨fun h => absurd h (by omega), fun h => absurd h HN2.out⟩, rfl⟩
set_option maxRecDepth 100000 in
theorem contains_go (A : Option Addr) (c : Nat) (zs : List Int) (x : Int) (w : World) (HR : Aside0 (Kd.C (Kd.int .i64) w A zs.length zs)) (hz : zs.length ≤ 1000) :
    Calls Tryd.prog 41 #[.slice A zs.length c, .int .i64 x] w fun e w' => e = .returned (.bool (decide (x ∈ zs))) ∧ w' = w := by
  go_enter Tryd.func41, Tryd.ntmps41
  go_wp2_with (go_at_call 55; refine (idx_go A c zs x w HR hz).mono ?_; rintro e w' ⟨r, rfl, hr, rfl⟩; have HRR := Aside0.mk hr; clear hr)
  refine bodyPost_ret (v := .bool (decide (0 ≤ r))) (by simp [results, Tryd.results41, go_sem]) rfl ⟨by rw [decide_eq_decide.2 HRR.out], rfl⟩
def struckB (fresh : List Int) (x : Int) : Bool := decide (x % 2 = 0) && decide (x / 2 ∈ fresh)
set_option maxRecDepth 100000 in
theorem clo_go (B : Nat) (Af : Option Addr) (cf : Nat) (fresh : List Int) (x : Int) (w : World) (hB : w.cell? ⟨B, 0, none⟩ = some (.slice Af fresh.length cf)) (HR : Aside0 (Kd.C (Kd.int .i64) w Af fresh.length fresh)) (hz : fresh.length ≤ 1000) (h0 : 0 ≤ x) (h1 : x ≤ 1000) :
    Calls Tryd.prog 40 #[.int .i64 x, .pointer (some ⟨B, 0, none⟩)] w fun e w' => e = .returned (.bool (struckB fresh x)) ∧ w' = w := by
  by_cases he : x % 2 = 0
  · have hb : (x % 2 == 0) = true := by simp [he]
    have hs : struckB fresh x = decide (x / 2 ∈ fresh) := by
      unfold struckB
      simp [he]
    rw [hs]
    clear hs
    have hcon := contains_go Af cf fresh (x / 2) w HR hz
    generalize decide (x / 2 ∈ fresh) = b0 at hcon ⊢
    have HCON := Aside0.mk hcon
    clear hcon
    go_enter Tryd.func40, Tryd.ntmps40
    go_wp2_with (go_at_call 41; refine HCON.out.mono ?_; rintro e w' ⟨rfl, rfl⟩)
    refine bodyPost_ret (v := .bool b0) (by simp [results, Tryd.results40, go_sem]) rfl ⟨rfl, rfl⟩
  · have hb : (x % 2 == 0) = false := by simp [he]
    have hs : struckB fresh x = false := by unfold struckB; simp [he]
    rw [hs]
    clear hs
    go_enter Tryd.func40, Tryd.ntmps40
    go_wp2
    refine bodyPost_ret (v := .bool false) (by simp [results, Tryd.results40, go_sem]) rfl ⟨rfl, rfl⟩
def keepL (fresh zs : List Int) : List Int := zs.filter fun x => !struckB fresh x
theorem C_kept {w W : World} {A : Option Addr} {n g : Nat} {xs : List Int} (h : Kd.C (Kd.int .i64) w A n xs) (hg : w.grownBy W (some g)) (hf : ∀ ad, A = some ad → 0 < n → ad.block ≠ g) : Kd.C (Kd.int .i64) W A n xs := by
  obtain ⟨h1, h2, h3⟩ := h
  refine ⟨h1, h2, fun hn => ?_⟩
  obtain ⟨ad, e, h4⟩ := h3 hn
  subst e
  refine ⟨ad, rfl, fun j p hj => ?_⟩
  obtain ⟨c, hc, hK, h5⟩ := h4 j p hj
  refine ⟨c, hc, hK, fun i v hi => ?_⟩
  have := h5 i v hi
  rw [← this]
  refine cell_grown hg (World.block_lt_of_cell? _ _ this) ?_
  rw [add_block]
  exact fun e => hf ad rfl hn (by injection e)
set_option maxRecDepth 100000 in
theorem idxf_go (A : Option Addr) (c : Nat) (zs : List Int) (B : Nat) (Af : Option Addr) (cf : Nat) (fresh : List Int) (w : World) (HR : Aside0 (Kd.C (Kd.int .i64) w A zs.length zs)) (hB : w.cell? ⟨B, 0, none⟩ = some (.slice Af fresh.length cf)) (HF : Aside0 (Kd.C (Kd.int .i64) w Af fresh.length fresh)) (hf : fresh.length ≤ 1000) (hz : zs.length ≤ 1000) (HX : Aside0 (∀ x ∈ zs, 0 ≤ x ∧ x ≤ 1000)) :
    Calls Tryd.prog 54 #[.slice A zs.length c, .func (.func 40) #[] #[.pointer (some ⟨B, 0, none⟩)]] w fun e w' => ∃ r : Int, e = .returned (.int .i64 r) ∧ Aside0 ((r = -1 ∧ ∀ x ∈ zs, struckB fresh x = false) ∨ ∃ k : Nat, r = k ∧ k < zs.length ∧ struckB fresh (zs.getD k 0) = true ∧ ∀ x ∈ zs.take k, struckB fresh x = false) ∧ w' = w := by
  go_enter Tryd.func54, Tryd.ntmps54
  go_wp2
  go_loopw [5, 8] (fun v5 v8 wr => ∃ k : Nat, k ≤ zs.length ∧ v8 = .int .i64 k ∧ Aside0 (∀ x ∈ zs.take k, struckB fresh x = false) ∧ wr = w) (fun _ v8 _ => zs.length - (intOf v8).toNat)
  case atStart => exact ⟨0, Nat.zero_le _, rfl, ⟨by simp⟩, rfl⟩
  case round =>
    obtain ⟨k, hk, rfl, HN, rfl⟩ := hrel
    by_cases hlt : k < zs.length
    · obtain ⟨al, el, hxl⟩ := Kd.at_int HR.out (k : Int) (by omega) (by omega)
      cases el
      rw [Int.toNat_natCast] at hxl
      have hget : rd zs (k : Int) = zs.getD k 0 := by unfold rd; simp
      have hbd := HX.out (zs.getD k 0) (by rw [List.getD_eq_getElem?_getD, List.getElem?_eq_getElem hlt]; exact List.getElem_mem _)
      rw [hget] at hxl
      have HTK : Aside0 (zs.take (k + 1) = zs.take k ++ [zs.getD k 0]) := ⟨by rw [List.take_succ_eq_append_getElem hlt, List.getD_eq_getElem?_getD, List.getElem?_eq_getElem hlt]; rfl⟩
      clear hget
      generalize hE : zs.getD k 0 = E at *
      have HE := Aside0.mk hE
      clear hE
      obtain ⟨h0, h1⟩ := hbd
      have hcl := clo_go B Af cf fresh E wr hB HF hf h0 h1
      cases hs : struckB fresh E with
      | true =>
        rw [hs] at hcl
        have HS := Aside0.mk hs
        have HCL := Aside0.mk hcl
        clear hs hcl
        go_wp2_with (go_at_call 40; refine HCL.out.mono ?_; rintro e w' ⟨rfl, rfl⟩)
        refine bodyPost_ret (v := .int .i64 k) (by simp [results, Tryd.results54, go_sem]) rfl ⟨k, rfl, ⟨.inr ⟨k, rfl, hlt, by rw [HE.out]; exact HS.out, HN.out⟩⟩, rfl⟩
      | false =>
        rw [hs] at hcl
        have HS := Aside0.mk hs
        have HCL := Aside0.mk hcl
        clear hs hcl
        go_wp2_with (go_at_call 40; refine HCL.out.mono ?_; rintro e w' ⟨rfl, rfl⟩)
        go_roundw
        case rel =>
          refine ⟨k + 1, by omega, by go_num, ⟨?_⟩, by first | rfl | trivial⟩
          rw [HTK.out]
          intro x hx
          rcases List.mem_append.1 hx with hx | hx
          · exact HN.out x hx
          · rw [List.mem_singleton.1 hx]; exact HS.out
        case measure => simp [intOf]; omega
    · obtain rfl : k = zs.length := by omega
      have hn := HN.out
      rw [List.take_length] at hn
      have HN2 := Aside0.mk hn
      clear hn
      go_wp2
      refine bodyPost_ret (v := .int .i64 (-1)) (by simp [results, Tryd.results54, go_sem]) rfl ⟨-1, rfl, ⟨.inl ⟨rfl, HN2.out⟩⟩, rfl⟩
theorem keepL_snoc (fresh l : List Int) (x : Int) : keepL fresh (l ++ [x]) = if struckB fresh x = true then keepL fresh l else keepL fresh l ++ [x] := by
  unfold keepL
  rw [List.filter_append]
  cases h : struckB fresh x <;> simp [List.filter_cons, h]
theorem keepL_none (fresh l : List Int) (h : ∀ x ∈ l, struckB fresh x = false) : keepL fresh l = l := by
  unfold keepL
  exact List.filter_eq_self.2 (fun x hx => by simp [h x hx])
structure KInv (fresh zs l : List Int) (i j : Nat) : Prop where
  len : l.length = zs.length
  lt : i < j
  le : j ≤ zs.length
  kept : l.take i = keepL fresh (zs.take j)
  rest : l.drop j = zs.drop j
theorem KInv.i_eq {fresh zs l : List Int} {i j : Nat} (h : KInv fresh zs l i j) : i = (keepL fresh (zs.take j)).length := by
  rw [← h.kept, List.length_take]
  have h1 := h.len; have h2 := h.lt; have h3 := h.le
  omega
theorem KInv.at_ {fresh zs l : List Int} {i j : Nat} (h : KInv fresh zs l i j) (hj : j < zs.length) : rd l (j : Int) = zs.getD j 0 := by
  have h1 : l[j]? = zs[j]? := by
    have a := congrArg (fun l => l[0]?) h.rest
    simpa [List.getElem?_drop] using a
  unfold rd
  rw [Int.toNat_natCast, List.getD_eq_getElem?_getD, List.getD_eq_getElem?_getD, h1]
theorem KInv.take_ {fresh zs l : List Int} {i j : Nat} (_ : KInv fresh zs l i j) (hj : j < zs.length) : zs.take (j + 1) = zs.take j ++ [zs.getD j 0] := by
  rw [List.take_succ_eq_append_getElem hj, List.getD_eq_getElem?_getD, List.getElem?_eq_getElem hj]; rfl
theorem KInv.skip {fresh zs l : List Int} {i j : Nat} (h : KInv fresh zs l i j) (hj : j < zs.length) (hs : struckB fresh (zs.getD j 0) = true) : KInv fresh zs l i (j + 1) := by
  refine ⟨h.len, by have := h.lt; omega, hj, ?_, ?_⟩
  · rw [h.take_ hj, keepL_snoc, if_pos hs]; exact h.kept
  · have a := congrArg (List.drop 1) h.rest
    simpa [List.drop_drop, Nat.add_comm] using a
theorem KInv.keep {fresh zs l : List Int} {i j : Nat} (h : KInv fresh zs l i j) (hj : j < zs.length) (hs : struckB fresh (zs.getD j 0) = false) : KInv fresh zs (l.set i (zs.getD j 0)) (i + 1) (j + 1) := by
  have hl := h.len; have hlt := h.lt
  refine ⟨by rw [List.length_set]; exact h.len, by omega, hj, ?_, ?_⟩
  · rw [h.take_ hj, keepL_snoc, if_neg (by rw [hs]; simp), ← h.kept]
    have hi : i < (l.set i (zs.getD j 0)).length := by rw [List.length_set]; omega
    rw [List.take_succ_eq_append_getElem hi, List.getElem_set_self]
    congr 1
    rw [List.take_set_of_le (Nat.le_refl _)]
  · rw [List.drop_set_of_lt (by omega)]
    have a := congrArg (List.drop 1) h.rest
    simpa [List.drop_drop, Nat.add_comm] using a
theorem R_cleared {w : World} {base g n cap i : Nat} {ok : Nat → Prop} {l : List Int} {vs : List Value} (h : Kd.R (Kd.int .i64) 3 w base ok (.slice (some ⟨g, 0, none⟩) n cap) l) (hn : 0 < n) (hi : i ≤ n) (hv : i + vs.length ≤ n) :
    Kd.R (Kd.int .i64) 3 (w.setCells g i vs) base ok (.slice (some ⟨g, 0, none⟩) i cap) (l.take i) ∧ w.grownBy (w.setCells g i vs) (some g) := by
  obtain ⟨hnl, hnc, _⟩ := Kd.R_reads' h
  have ho := Kd.own_of_R h
  obtain ⟨h1, h2 | ⟨g', cap', cur, e, hb, hh, hl, hm, hs, ht⟩⟩ := ho
  · exact absurd h2.1 (by simp)
  · injection e with e1 e2 e3
    injection e1 with e1
    injection e1 with e1
    subst e1 e3
    have hcs : cur.size = cap := by simpa using hs
    obtain ⟨cur', h3, h4, h5⟩ := setCells_row vs i w cur hh (by omega)
    obtain ⟨s1, s2, s3, s4⟩ := setCells_same g vs i w
    refine ⟨?_, ⟨s1, s2, s3, by rw [s4]; exact Nat.le_refl _, fun k hk hne => setCells_far vs i k (fun e => hne (by rw [e]))⟩⟩
    have hli : (l.take i).length = i := by rw [List.length_take]; omega
    have hR : Kd.R (Kd.int .i64) 3 (w.setCells g i vs) base ok (.slice (some ⟨g, 0, none⟩) (l.take i).length cap) (l.take i) := by
      refine Kd.R_of_own (enc := Value.int .i64) ⟨by simp [encs], .inr ⟨g, cap, cur', rfl, hb, h3, by rw [hli]; omega, hm, by rw [h4]; exact hs, ?_⟩⟩ (fun k hk => h.1 k (by simpa [Value.ownBlock] using hk))
      rw [h5, hli]
      have hcl : cur.toList.length = cap := by simpa using hcs
      rw [List.append_assoc, List.take_append_of_le_length (by rw [List.length_take]; omega), List.take_take]
      have : (encs (Value.int .i64) l).take i = encs (Value.int .i64) (l.take i) := by unfold encs; rw [List.map_take]
      rw [← this, ← ht, List.take_take]
      congr 1
      omega
    rw [hli] at hR
    exact hR
theorem keepL_len (fresh zs : List Int) : (keepL fresh zs).length ≤ zs.length := List.length_filter_le _ _
set_option maxRecDepth 100000 in
set_option maxHeartbeats 1000000 in
theorem delf_some (g cap base : Nat) (ok : Nat → Prop) (zs : List Int) (B : Nat) (Af : Option Addr) (cf : Nat) (fresh : List Int) (w : World) (HR : Aside0 (Kd.R (Kd.int .i64) 3 w base ok (.slice (some ⟨g, 0, none⟩) zs.length cap) zs)) (HB : Aside0 (w.cell? ⟨B, 0, none⟩ = some (.slice Af fresh.length cf))) (HBg : Aside0 (B ≠ g)) (HF : Aside0 (Kd.C (Kd.int .i64) w Af fresh.length fresh)) (HFg : Aside0 (∀ ad, Af = some ad → 0 < fresh.length → ad.block ≠ g)) (hf : fresh.length ≤ 1000) (hz : zs.length ≤ 1000) (HX : Aside0 (∀ x ∈ zs, 0 ≤ x ∧ x ≤ 1000)) (HS : Aside0 (¬ ∀ x ∈ zs, struckB fresh x = false)) :
    Calls Tryd.prog 39 #[.slice (some ⟨g, 0, none⟩) zs.length cap, .func (.func 40) #[] #[.pointer (some ⟨B, 0, none⟩)]] w fun e w' => e = .returned (.slice (some ⟨g, 0, none⟩) (keepL fresh zs).length cap) ∧ Kd.R (Kd.int .i64) 3 w' base ok (.slice (some ⟨g, 0, none⟩) (keepL fresh zs).length cap) (keepL fresh zs) ∧ w.grownBy w' (some g) := by
  obtain ⟨-, hcap, hC0⟩ := Kd.R_reads' HR.out
  have HC0 := Aside0.mk hC0
  clear hC0
  have HI := Aside0.mk (idxf_go (some ⟨g, 0, none⟩) cap zs B Af cf fresh w HC0 HB.out HF hf hz HX)
  go_enter Tryd.func39, Tryd.ntmps39
  go_wp2_with (go_at_call 54; refine HI.out.mono ?_; rintro e w' ⟨r, rfl, ⟨hr⟩, rfl⟩; obtain ⟨k, rfl, hk, hs, hn⟩ := hr.resolve_left (fun h => HS.out h.2); have hr1 : ((k : Int) == -1) = false := beq_eq_false_iff_ne.2 (by omega); have HK := Aside0.mk (And.intro hs hn); clear hr hs hn)
  go_loopw [5, 6, 7] (fun v5 v6 _ wr => ∃ (i j : Nat) (l : List Int), v5 = .int .i64 i ∧ v6 = .int .i64 j ∧ i < j ∧ j ≤ zs.length ∧ Aside0 (KInv fresh zs l i j) ∧ Aside0 (Kd.R (Kd.int .i64) 3 wr base ok (.slice (some ⟨g, 0, none⟩) zs.length cap) l) ∧ Aside0 (w'.grownBy wr (some g))) (fun _ v6 _ _ => zs.length - (intOf v6).toNat)
  case atStart =>
    refine ⟨k, k + 1, zs, rfl, by go_num, by omega, by omega, ⟨⟨rfl, by omega, by omega, ?_, rfl⟩⟩, HR, ⟨World.grownBy.refl _ _⟩⟩
    rw [List.take_succ_eq_append_getElem hk, keepL_snoc, if_pos (by have := HK.out.1; rwa [List.getD_eq_getElem?_getD, List.getElem?_eq_getElem hk] at this), keepL_none _ _ HK.out.2]
  case round =>
    clear HR HI HC0 HK
    obtain ⟨i, j, l, rfl, rfl, hij, hjn, HV, HR, HG⟩ := hrel
    by_cases hlt : j < zs.length
    · obtain ⟨cj, _⟩ := Kd.R_celln 0 HR.out (j : Int) (by omega) (by omega)
      obtain ⟨ci, fi⟩ := Kd.R_celln 0 HR.out (i : Int) (by omega) (by omega)
      rw [Int.toNat_natCast] at cj ci fi
      have hrd : rdOf 0 l (j : Int) = zs.getD j 0 := HV.out.at_ hlt
      rw [hrd] at cj
      have hbd := HX.out (zs.getD j 0) (by rw [List.getD_eq_getElem?_getD, List.getElem?_eq_getElem hlt]; exact List.getElem_mem _)
      clear hrd
      generalize hE : zs.getD j 0 = E at *
      generalize rdOf 0 l (i : Int) = D at ci
      have HE := Aside0.mk hE
      clear hE
      obtain ⟨h0, h1⟩ := hbd
      have hbx : wr.cell? ⟨B, 0, none⟩ = some (.slice Af fresh.length cf) := (cell_grown HG.out (World.block_lt_of_cell? _ _ HB.out) (fun e => HBg.out (by injection e))).trans HB.out
      have hcl := clo_go B Af cf fresh E wr hbx ⟨C_kept HF.out HG.out HFg.out⟩ hf h0 h1
      clear hbx
      cases hs : struckB fresh E with
      | true =>
        rw [hs] at hcl
        have HS := Aside0.mk hs
        have HCL := Aside0.mk hcl
        clear hs hcl
        go_wp2_with (go_at_call 40; refine HCL.out.mono ?_; rintro e w2 ⟨rfl, rfl⟩)
        go_roundw
        case rel => exact ⟨i, j + 1, l, rfl, by go_num, by omega, by omega, ⟨HV.out.skip hlt (by rw [HE.out]; exact HS.out)⟩, HR, HG⟩
        case measure => simp [intOf]; omega
      | false =>
        rw [hs] at hcl
        have HS := Aside0.mk hs
        have HCL := Aside0.mk hcl
        clear hs hcl
        go_wp2_with (go_at_call 40; refine HCL.out.mono ?_; rintro e w2 ⟨rfl, rfl⟩)
        go_roundw
        case rel =>
          have hp := Kd.R_putg HR.out (i : Int) E
          rw [Int.toNat_natCast] at hp
          refine ⟨i + 1, j + 1, l.set i E, by go_num, by go_num, by omega, by omega, ⟨?_⟩, ⟨hp.1⟩, ⟨grow_then HG.out hp.2 (.inl rfl)⟩⟩
          have := HV.out.keep hlt (by rw [HE.out]; exact HS.out)
          rwa [HE.out] at this
        case measure => simp [intOf]; omega
    · obtain rfl : j = zs.length := by omega
      have hcl : ∀ ty, (Builtin.clear_ #[32] ty #[.slice (some ⟨g, i, none⟩) (zs.length - i) (cap - i)]).run Tryd.prog wr = .ok (.tuple #[]) (wr.setCells g i (List.replicate (zs.length - i) (.int .i64 0))) :=
        fun ty => Lib.run_clear_slice wr 32 3 ty _ Tryd.underlying32 ckZero rfl rfl g i _ _ (by omega)
          (fun t ht => by have := (Kd.R_celln 0 HR.out ((i + t : Nat) : Int) (by omega) (by omega)).1; rw [Int.toNat_natCast] at this; rw [this]; rfl)
          (fun t ht => by have := (Kd.R_celln 0 HR.out ((i + t : Nat) : Int) (by omega) (by omega)).2; rw [Int.toNat_natCast] at this; exact this)
      have HCW := Aside0.mk (R_cleared (i := i) (vs := List.replicate (zs.length - i) (.int .i64 0)) HR.out (by omega) (by omega) (by simp; omega))
      have hie := HV.out.i_eq
      rw [List.take_length] at hie
      have hkp := HV.out.kept
      rw [List.take_length] at hkp
      have HIE := Aside0.mk hie
      have HKP := Aside0.mk hkp
      clear hie hkp
      have hi1000 : (i : Int) ≤ 1000 := by omega
      go_wp2
      refine bodyPost_ret (v := .slice (some ⟨g, 0, none⟩) i cap) (by simp [results, Tryd.results39, go_sem]) rfl ⟨by rw [HIE.out], ?_, grow_then HG.out HCW.out.2 (.inl rfl)⟩
      have := HCW.out.1
      rw [HKP.out] at this
      rwa [← HIE.out]
theorem getD_mem (zs : List Int) (k : Nat) (hk : k < zs.length) : zs.getD k 0 ∈ zs := by rw [List.getD_eq_getElem?_getD, List.getElem?_eq_getElem hk]; exact List.getElem_mem _
set_option maxRecDepth 100000 in
theorem delf_none (g cap base : Nat) (ok : Nat → Prop) (zs : List Int) (B : Nat) (Af : Option Addr) (cf : Nat) (fresh : List Int) (w : World) (HR : Aside0 (Kd.R (Kd.int .i64) 3 w base ok (.slice (some ⟨g, 0, none⟩) zs.length cap) zs)) (HB : Aside0 (w.cell? ⟨B, 0, none⟩ = some (.slice Af fresh.length cf))) (HF : Aside0 (Kd.C (Kd.int .i64) w Af fresh.length fresh)) (hf : fresh.length ≤ 1000) (hz : zs.length ≤ 1000) (HX : Aside0 (∀ x ∈ zs, 0 ≤ x ∧ x ≤ 1000)) (HS : Aside0 (∀ x ∈ zs, struckB fresh x = false)) :
    Calls Tryd.prog 39 #[.slice (some ⟨g, 0, none⟩) zs.length cap, .func (.func 40) #[] #[.pointer (some ⟨B, 0, none⟩)]] w fun e w' => e = .returned (.slice (some ⟨g, 0, none⟩) zs.length cap) ∧ w' = w := by
  obtain ⟨-, hcap, hC0⟩ := Kd.R_reads' HR.out
  have HC0 := Aside0.mk hC0
  clear hC0
  have HI := Aside0.mk (idxf_go (some ⟨g, 0, none⟩) cap zs B Af cf fresh w HC0 HB.out HF hf hz HX)
  go_enter Tryd.func39, Tryd.ntmps39
  go_wp2_with (go_at_call 54; refine HI.out.mono ?_; rintro e w' ⟨r, rfl, ⟨hr⟩, rfl⟩; obtain rfl : r = -1 := (by rcases hr with h | ⟨k, -, hk, hs, -⟩; exact h.1; exact absurd (HS.out _ (getD_mem zs k hk)) (by rw [hs]; simp)); clear hr)
  refine bodyPost_ret (v := .slice (some ⟨g, 0, none⟩) zs.length cap) (by simp [results, Tryd.results39, go_sem]) rfl ⟨rfl, rfl⟩
theorem delf_go (g cap base : Nat) (ok : Nat → Prop) (zs : List Int) (B : Nat) (Af : Option Addr) (cf : Nat) (fresh : List Int) (w : World) (HR : Aside0 (Kd.R (Kd.int .i64) 3 w base ok (.slice (some ⟨g, 0, none⟩) zs.length cap) zs)) (HB : Aside0 (w.cell? ⟨B, 0, none⟩ = some (.slice Af fresh.length cf))) (HBg : Aside0 (B ≠ g)) (HF : Aside0 (Kd.C (Kd.int .i64) w Af fresh.length fresh)) (HFg : Aside0 (∀ ad, Af = some ad → 0 < fresh.length → ad.block ≠ g)) (hf : fresh.length ≤ 1000) (hz : zs.length ≤ 1000) (HX : Aside0 (∀ x ∈ zs, 0 ≤ x ∧ x ≤ 1000)) :
    Calls Tryd.prog 39 #[.slice (some ⟨g, 0, none⟩) zs.length cap, .func (.func 40) #[] #[.pointer (some ⟨B, 0, none⟩)]] w fun e w' => e = .returned (.slice (some ⟨g, 0, none⟩) (keepL fresh zs).length cap) ∧ Kd.R (Kd.int .i64) 3 w' base ok (.slice (some ⟨g, 0, none⟩) (keepL fresh zs).length cap) (keepL fresh zs) ∧ w.grownBy w' (some g) := by
  by_cases HS : ∀ x ∈ zs, struckB fresh x = false
  · refine (delf_none g cap base ok zs B Af cf fresh w HR HB HF hf hz HX ⟨HS⟩).mono ?_
    rintro e w' ⟨rfl, rfl⟩
    rw [keepL_none _ _ HS]
    exact ⟨rfl, HR.out, World.grownBy.refl _ _⟩
  · exact delf_some g cap base ok zs B Af cf fresh w HR HB HBg HF HFg hf hz HX ⟨HS⟩
theorem rows_parts {w : World} {base : Nat} {ok : Nat → Prop} {v : Value} {rows : List S71} (h : Kd.S k71 71 w base ok v rows) (hp : 0 < rows.length) :
    ∃ (gv cv : Nat) (f : Nat → Nat), v = .slice (some ⟨gv, 0, none⟩) rows.length cv ∧ base ≤ gv ∧ gv < w.heap.size ∧ ∀ j r, rows[j]? = some r → ∃ u, w.cell? ⟨gv, j * 2, none⟩ = some (.int .i64 r.f0) ∧ w.cell? ⟨gv, j * 2 + 1, none⟩ = some u ∧ Kd.R (Kd.int .i64) 3 w base (fun q => q ≠ gv ∧ f q = j ∧ q < w.heap.size) u r.f1 := by
  obtain ⟨f, h0, inner, ho, hr⟩ := h
  rw [List.length_zipIdx] at ho
  obtain ⟨h1, h2 | ⟨g, cap, cur, rfl, hb, hh, hl, hm, hs, ht⟩⟩ := ho
  · rw [h2.2, show (Kd.tag f k71).sz = 2 from rfl] at h1; simp at h1; omega
  · refine ⟨g, cap, f, rfl, hb, blk_lt hh, fun j r hj => ?_⟩
    have hz : rows.zipIdx[j]? = some (r, j) := by simp [List.getElem?_zipIdx, hj]
    obtain ⟨u, he, hR⟩ := k71_openM (hr.2 j (r, j) hz)
    have hjl : j < rows.length := (List.getElem?_eq_some_iff.1 hj).1
    have hin : ∀ i x, ((inner.drop (j * 2)).take 2)[i]? = some x → w.cell? ⟨g, j * 2 + i, none⟩ = some x := by
      intro i x hx
      have hi : i < 2 := by
        have := (List.getElem?_eq_some_iff.1 hx).1
        rw [List.length_take] at this
        omega
      rw [List.getElem?_take, if_pos hi, List.getElem?_drop] at hx
      rw [blk_cell hh, ← Array.getElem?_toList]
      rw [← ht, List.getElem?_take] at hx
      split at hx
      · exact hx
      · cases hx
    have he2 : (inner.drop (j * 2)).take 2 = [.int .i64 r.f0, u] := he
    rw [he2] at hin
    exact ⟨u, hin 0 _ rfl, hin 1 _ rfl, Kd.R_mono (Kd.R_bound hR) (fun q hq => ⟨fun e => hq.1.1.2 (by rw [e]; rfl), hq.1.2, hq.2.2.1⟩)⟩
def outOk (n1 gv : Nat) (f : Nat → Nat) (k q : Nat) : Prop := n1 ≤ q ∨ (q < n1 ∧ q ≠ gv ∧ f q < k)
theorem intsInfo : (Tryd.prog.info? 32).map (fun i => (i.zero, i.size, i.bytes)) = some (some (.slice none 0 0), 1, 24) := by kernel_rfl
theorem C_far {w0 : World} {A : Option Addr} {n g : Nat} {xs : List Int} (h : Kd.C (Kd.int .i64) w0 A n xs) (hg : w0.heap.size ≤ g) : ∀ ad, A = some ad → 0 < n → ad.block ≠ g := by
  intro ad e hn
  obtain ⟨ad', e', hc⟩ := Kd.at_int h 0 (by omega) (by omega)
  have := World.block_lt_of_cell? _ _ hc
  rw [add_block] at this
  rw [e] at e'
  obtain rfl := Option.some.inj e'
  omega
structure TgInv (fresh : List Int) (rows : List S71) (W0 w1 wr : World) (gv : Nat) (f : Nat → Nat) (k : Nat) (v : Value) : Prop where
  out : Kd.S (Kd.slice 3 (Kd.int .i64)) 32 wr W0.heap.size (outOk w1.heap.size gv f k) v ((rows.take k).map fun r => keepL fresh r.f1)
  todo : ∀ j r u, k ≤ j → rows[j]? = some r → w1.cell? ⟨gv, j * 2 + 1, none⟩ = some u → Kd.R (Kd.int .i64) 3 wr W0.heap.size (fun q => q ≠ gv ∧ f q = j ∧ q < w1.heap.size) u r.f1
  gvb : wr.heap[gv]? = w1.heap[gv]?
  bel : Below W0.heap.size W0 wr
  size : w1.heap.size ≤ wr.heap.size
theorem TgInv.next {fresh : List Int} {rows : List S71} {W0 w1 wr wA w2 w3 : World} {gv gu : Nat} {f : Nat → Nat} {k : Nat} {v v3 : Value} {r : S71} {o : Obj} (h : TgInv fresh rows W0 w1 wr gv f k v) (hA : wA = wr.alloc o) (hgk : gu ≠ gv ∧ f gu = k ∧ gu < w1.heap.size) (hgv : gv < w1.heap.size) (hr : rows[k]? = some r)
    (hg2 : wA.grownBy w2 (some gu)) (hb3 : Below W0.heap.size W0 w3) (hg3 : w2.grownBy w3 v.ownBlock) (ho : Kd.S (Kd.slice 3 (Kd.int .i64)) 32 w3 W0.heap.size (outOk w1.heap.size gv f (k + 1)) v3 (((rows.take k).map fun r => keepL fresh r.f1) ++ [keepL fresh r.f1])) : TgInv fresh rows W0 w1 w3 gv f (k + 1) v3 := by
  subst hA
  have hown : ∀ q, v.ownBlock = some q → outOk w1.heap.size gv f k q := fun q hq => (Kd.S_R h.out).1 q hq
  have hsA : w1.heap.size ≤ (wr.alloc o).heap.size := Nat.le_trans h.size (by simp)
  refine ⟨?_, ?_, ?_, hb3, Nat.le_trans hsA (Nat.le_trans hg2.size hg3.size)⟩
  · have hkl := (List.getElem?_eq_some_iff.1 hr).1
    have : (rows.take (k + 1)) = rows.take k ++ [r] := by rw [List.take_succ_eq_append_getElem hkl, (List.getElem?_eq_some_iff.1 hr).2]
    rw [this, List.map_append]
    exact ho
  · intro j r' u hj hr' hu
    have h1 := h.todo j r' u (by omega) hr' hu
    refine Kd.R_grown (Kd.R_grown (Kd.R_alloc h1 o) hg2 (fun q hq e => ?_)) hg3 (fun q hq e => ?_)
    · injection e with e
      subst e
      have := hq.2.1
      omega
    · rcases hown q e.symm with h4 | h4
      · have := hq.2.2; omega
      · have := hq.2.1; have := h4.2.2; omega
  · have hlA : gv < (wr.alloc o).heap.size := Nat.lt_of_lt_of_le hgv hsA
    rw [hg3.block gv (Nat.lt_of_lt_of_le hlA hg2.size) (fun e => ?_), hg2.block gv hlA (fun e => hgk.1 (by injection e with e; exact e.symm)), ← h.gvb]
    · exact (grow_alloc o none).block gv (Nat.lt_of_lt_of_le hgv h.size) (by simp)
    · rcases hown gv e.symm with h4 | h4
      · omega
      · exact h4.2.1 rfl
set_option maxRecDepth 100000 in
set_option maxHeartbeats 1000000 in
theorem targets_go (A0 : Option Addr) (c0 : Nat) (t : List S45) (leaf : Int) (Af : Option Addr) (cf : Nat) (fresh : List Int) (rows : List S71) (e2 : Int) (w : World) (HR : Aside0 (Kd.C k45 w A0 t.length t)) (HC : Aside0 (t.length ≤ c0)) (HF : Aside0 (Kd.C (Kd.int .i64) w Af fresh.length fresh)) (HT : Aside0 (TabG w)) (H : Aside0 (tree_rows.f t leaf = some (rows, e2)))
    (hf : fresh.length ≤ 1000) (hl : rows.length ≤ 3) (HX : Aside0 (∀ r ∈ rows, r.f1 ≠ [] ∧ r.f1.length ≤ 1000 ∧ ∀ x ∈ r.f1, 0 ≤ x ∧ x ≤ 1000)) (h0 : 0 < rows.length) :
    Calls Tryd.prog 25 #[.agg #[.slice A0 t.length c0], .int .i64 leaf, .slice Af fresh.length cf] w fun e w' => ∃ v0_ : Value, e = .returned (.tuple #[v0_, .int .i64 e2]) ∧ Kd.S (Kd.slice 3 (Kd.int .i64)) 32 w' w.heap.size (fun _ => True) v0_ (rows.map fun r => keepL fresh r.f1) ∧ Below w.heap.size w w' := by
  have hu24 := Tryd.underlying24
  have hu71 := Tryd.underlying71
  go_enter Tryd.func25, Tryd.ntmps25
  go_wp2_with (go_at_call 35; refine (tree_rows.calls A0 c0 t _ _ _ _ (Kd.C_alloc (Kd.C_alloc HR.out _) _) HC.out ((HT.out.alloc _).alloc _) H.out).mono ?_; rintro e w1 ⟨v1, rfl, ho, hb⟩; obtain ⟨gv, cv, f, rfl, hbg, hgl, hp⟩ := rows_parts ho h0; have HP := Aside0.mk hp; have HGV := Aside0.mk (And.intro hbg hgl); have HB := Aside0.mk hb; clear ho hb hp hbg hgl)
  obtain ⟨W0, hW0⟩ : ∃ W0, Aside0 (W0 = (w.alloc (Obj.cells #[Value.slice A0 t.length c0] 24)).alloc (Obj.cells #[Value.slice Af fresh.length cf] 32)) := ⟨_, ⟨rfl⟩⟩
  rw [← hW0.out] at HP HB HGV
  have HW0B : Aside0 (Below w.heap.size w W0) := ⟨by rw [hW0.out]; exact below_alloc (below_alloc (Below.refl _ _) _) _⟩
  have HBX : Aside0 (W0.heap[w.heap.size + 1]? = some (.cells #[.slice Af fresh.length cf] 32 (0, 0))) := ⟨by rw [hW0.out]; have h1 := heap_alloc_new (w.alloc (Obj.cells #[Value.slice A0 t.length c0] 24)) (Obj.cells #[Value.slice Af fresh.length cf] 32); simpa using h1⟩
  have HF0 := Aside0.mk (Kd.C_below HF.out HW0B.out)
  have HLW : Aside0 (w.heap.size + 1 < W0.heap.size) := ⟨blk_lt HBX.out⟩
  go_loopw [10, 12, 21] (fun v10 _ v21 wr => ∃ k : Nat, k ≤ rows.length ∧ v21 = .int .i64 k ∧ Aside0 (TgInv fresh rows W0 w1 wr gv f k v10)) (fun _ _ v21 _ => rows.length - (intOf v21).toNat)
  case atStart =>
    refine ⟨0, Nat.zero_le _, rfl, ⟨⟨Kd.S_nil _ _ _ _ _, ?_, rfl, HB.out, Nat.le_refl _⟩⟩⟩
    intro j r u _ hj hu
    obtain ⟨u', _, h2, h3⟩ := HP.out j r hj
    rw [h2] at hu
    obtain rfl := Option.some.inj hu
    exact h3
  case round =>
    obtain ⟨k, hk, rfl, HV⟩ := hrel
    by_cases hlt : k < rows.length
    · obtain ⟨r, hr⟩ : ∃ r, rows[k]? = some r := ⟨_, List.getElem?_eq_getElem hlt⟩
      obtain ⟨u, hu0, hu1, hu2⟩ := HP.out k r hr
      obtain ⟨hne, hr1000, hrx⟩ := HX.out r (List.mem_of_getElem? hr)
      have hRu := HV.out.todo k r u (Nat.le_refl _) hr hu1
      obtain ⟨gu, cu, rfl, hbu, hgu, _⟩ := Kd.R_form hRu (List.length_pos_iff.2 hne)
      have hx0 : wr.cell? ⟨gv, k * 2, none⟩ = some (.int .i64 r.f0) := by rw [← hu0]; unfold World.cell?; simp only [HV.out.gvb]
      have hx1 : wr.cell? ⟨gv, k * 2 + 1, none⟩ = some (.slice (some ⟨gu, 0, none⟩) r.f1.length cu) := by rw [← hu1]; unfold World.cell?; simp only [HV.out.gvb]
      have HRU := Aside0.mk hRu
      have HRK := Aside0.mk hr
      have HRX := Aside0.mk hrx
      have HBU := Aside0.mk hbu
      clear hu0 hu1 hu2 hRu hr hne hrx hbu
      have hk3 : (k : Int) ≤ 3 := by omega
      have hgk : gu ≠ gv ∧ f gu = k ∧ gu < w1.heap.size := HRU.out.1 gu rfl
      have HGK := Aside0.mk hgk
      clear hgk
      have HBW : Aside0 (∀ o, Below W0.heap.size W0 (wr.alloc o)) := ⟨fun o => below_alloc HV.out.bel o⟩
      have hkl := keepL_len fresh r.f1
      have htk : (rows.take k).length ≤ k := List.length_take_le _ _
      have HNG : Aside0 (∀ q, outOk w1.heap.size gv f k q → some q ≠ some gu) := ⟨fun q hq e => by injection e with e; subst e; have := HGK.out; rcases hq with h | ⟨_, _, h⟩ <;> omega⟩
      have HNK : Aside0 (∀ q, outOk w1.heap.size gv f k q → outOk w1.heap.size gv f (k + 1) q ∧ ¬ q = gu) := ⟨fun q hq => ⟨hq.imp_right (fun h => ⟨h.1, h.2.1, by omega⟩), fun e => HNG.out q hq (by rw [e])⟩⟩
      have HGU : Aside0 (∀ q, some gu = some q → W0.heap.size ≤ q) := ⟨fun q e => by injection e with e; have := HBU.out; omega⟩
      have HNO : Aside0 (∀ q, q = gu → outOk w1.heap.size gv f (k + 1) q ∧ some q ≠ u10.ownBlock) := ⟨fun q e => ⟨.inr (by subst e; exact ⟨HGK.out.2.2, HGK.out.1, by have := HGK.out.2.1; omega⟩), fun e2 => HNG.out q ((Kd.S_R HV.out.out).1 q e2.symm) (by rw [e])⟩⟩
      have HGVL := Aside0.mk HGV.out.2
      go_wp2_with (first | (go_at_call 39; refine (delf_go gu cu W0.heap.size _ r.f1 (w.heap.size + 1) Af cf fresh _ ⟨Kd.R_alloc HRU.out _⟩ ⟨?aB⟩ ⟨?aN⟩ ⟨Kd.C_below HF0.out (HBW.out _)⟩ ⟨C_far HF0.out HBU.out⟩ hf hr1000 HRX).mono ?_; (case aB => exact blk_cell (blk_below HBX.out (HBW.out _)) 0); (case aN => have := HLW.out; have := HBU.out; omega); rintro e w2 ⟨rfl, hR2, hg2⟩; have HR2 := Aside0.mk hR2; have HG2 := Aside0.mk hg2; have HS2 := Aside0.mk (Kd.S_mono (ok' := fun q => outOk w1.heap.size gv f (k + 1) q ∧ ¬ q = gu) (Kd.S_grown (Kd.S_alloc HV.out.out _) hg2 (HNG.out)) HNK.out); have HB2 := Aside0.mk (pw_below_grown (HBW.out _) (some gu) (HBW.out _).size hg2 HGU.out); have HN2 := Aside0.mk (And.intro (Nat.le_trans (Nat.le_trans HV.out.size (grow_alloc _ none).size) hg2.size) (Nat.le_trans (HBW.out _).size hg2.size)); clear hR2 hg2) | (at_builtin; (refine Kd.S_append (Kd.slice 3 (Kd.int .i64)) (w0 := W0) W0.heap.size rfl (.tmp 25) (.tmp 30) 52 32 (.slice none 0 0) 24 rfl Tryd.underlying52 intsInfo rfl (by decide) (by omega) u10 ((rows.take k).map fun r => keepL fresh r.f1) (keepL fresh r.f1) [.slice (some ⟨gu, 0, none⟩) (keepL fresh r.f1).length cu] (outOk w1.heap.size gv f (k + 1)) (fun q => q = gu) rfl rfl ?bP ?bK ?bF ?bO ?bB ?bS ?bL ?_); (case bP => exact Kd.M_row (Kd.R_of_own (Kd.own_of_R HR2.out) (fun q hq => by injection hq with hq; exact hq.symm))); (case bK => exact HNO.out); (case bF => exact fun q hq => .inl (Nat.le_trans HN2.out.1 hq)); (case bO => exact HS2.out); (case bB => exact HB2.out); (case bS => exact HN2.out.2); (case bL => simp; omega); intro v8 w8 ho hb hg hat; have HV8 := Aside0.mk (HV.out.next rfl HGK.out HGVL.out HRK.out HG2.out hb hg ho); clear ho hb hg hat))
      go_roundw
      case rel => exact ⟨k + 1, by omega, by go_num, HV8⟩
      case measure => simp [intOf]; omega
    · obtain rfl : k = rows.length := by omega
      have ho := HV.out.out
      rw [List.take_length] at ho
      have HO := Aside0.mk (Kd.S_lower (Kd.S_mono ho (fun _ _ => trivial)) HW0B.out.size)
      have HBE := Aside0.mk (HW0B.out.trans (HV.out.bel.mono HW0B.out.size))
      clear ho
      go_wp2
      refine bodyPost_ret (v := .tuple #[u10, .int .i64 e2]) (by simp [results, Tryd.results25, go_sem]) rfl ⟨u10, rfl, HO.out, HBE.out⟩
set_option maxRecDepth 100000 in
theorem targets_nil (A0 : Option Addr) (c0 : Nat) (t : List S45) (leaf : Int) (Af : Option Addr) (cf : Nat) (fresh : List Int) (e2 : Int) (w : World) (HR : Aside0 (Kd.C k45 w A0 t.length t)) (HC : Aside0 (t.length ≤ c0)) (HT : Aside0 (TabG w)) (H : Aside0 (tree_rows.f t leaf = some ([], e2))) :
    Calls Tryd.prog 25 #[.agg #[.slice A0 t.length c0], .int .i64 leaf, .slice Af fresh.length cf] w fun e w' => ∃ v0_ : Value, e = .returned (.tuple #[v0_, .int .i64 e2]) ∧ Kd.S (Kd.slice 3 (Kd.int .i64)) 32 w' w.heap.size (fun _ => True) v0_ [] ∧ Below w.heap.size w w' := by
  have hu24 := Tryd.underlying24
  go_enter Tryd.func25, Tryd.ntmps25
  go_wp2_with (go_at_call 35; refine (tree_rows.calls A0 c0 t _ _ _ _ (Kd.C_alloc (Kd.C_alloc HR.out _) _) HC.out ((HT.out.alloc _).alloc _) H.out).mono ?_; rintro e w1 ⟨v1, rfl, ho, hb⟩; obtain ⟨A1, c1, rfl, -, -⟩ := Kd.S_reads ho; have HB := Aside0.mk (below_box (below_box hb)); clear ho hb)
  go_loopw [10, 21] (fun v10 v21 wr => v10 = .slice none 0 0 ∧ v21 = .int .i64 0 ∧ wr = w1) (fun _ _ _ => 0)
  case atStart => exact ⟨rfl, rfl, rfl⟩
  case round =>
    obtain ⟨rfl, rfl, rfl⟩ := hrel
    go_wp2
    refine bodyPost_ret (v := .tuple #[.slice none 0 0, .int .i64 e2]) (by simp [results, Tryd.results25, go_sem]) rfl ⟨_, rfl, Kd.S_nil _ _ _ _ _, HB.out⟩
theorem resF_mem {t : List S45} (hs : Small t) : ∀ (k x : Nat) (e : Int), e ∈ resF k t x → 0 ≤ e ∧ e ≤ x + 2 ^ k + 14 := by
  have hown : ∀ (k x : Nat) (e : Int), e ∈ ((x : Int) :: (nodeN t x).f3.map (fun u => 2 * u)) → 0 ≤ e ∧ e ≤ x + 2 ^ k + 14 := by
    intro k x e he
    have hp : (0 : Int) < 2 ^ k := Int.pow_pos (by decide)
    rcases List.mem_cons.1 he with rfl | he
    · omega
    · obtain ⟨u, hu, rfl⟩ := List.mem_map.1 he
      have := (hs.un x).2 u hu
      omega
  intro k
  induction k with
  | zero =>
    intro x e he
    by_cases h : 0 < (nodeN t x).f0
    · rw [resF_own 0 h] at he
      exact hown 0 x e he
    · rw [resF_zero h] at he
      cases he
  | succ k ih =>
    intro x e he
    by_cases h : 0 < (nodeN t x).f0
    · rw [resF_own (k + 1) h] at he
      exact hown (k + 1) x e he
    · rw [resF_succ k h] at he
      have hp : (0 : Int) < 2 ^ k := Int.pow_pos (by decide)
      have hcast : ((2 ^ k : Nat) : Int) = 2 ^ k := by simp
      have h2 : (2 : Int) ^ (k + 1) = 2 * 2 ^ k := by rw [Int.pow_succ]; omega
      rcases List.mem_append.1 he with he | he
      · have := ih _ _ he
        omega
      · have := ih _ _ he
        rw [Int.natCast_add, hcast] at this
        omega
theorem resT_mem {t : List S45} (h : okB t = true) {x : Nat} (hx : x < t.length) : ∀ e ∈ resT t x, 0 ≤ e ∧ e ≤ 1000 := by
  intro e he
  have hs := small_of_ok h (by intro e; subst e; simp at hx)
  have h15 := (lst_at t hs.lv x hx).2.2
  have hl := List.all_eq_true.1 lvl_le x (List.mem_range.2 (by omega))
  have hl := of_decide_eq_true hl
  have hm := resF_mem hs (lvlN x) x e he
  have hp : (2 : Int) ^ (lvlN x) ≤ 8 := by
    have : lvlN x = 0 ∨ lvlN x = 1 ∨ lvlN x = 2 ∨ lvlN x = 3 := by omega
    rcases this with h | h | h | h <;> rw [h] <;> decide
  omega
theorem rowsTo_mem {t : List S45} (h : okB t = true) (n i : Nat) (hc : ∀ x ∈ copL n i, x < t.length) : ∀ k, k ≤ (copL n i).length → ∀ r ∈ rowsTo t n i k, r.f1 ≠ [] ∧ r.f1.length ≤ 1000 ∧ ∀ x ∈ r.f1, 0 ≤ x ∧ x ≤ 1000 := by
  intro k
  induction k with
  | zero => intro _ r hr; simp [rowsTo] at hr
  | succ k ih =>
    intro hk r hr
    have hcx : (copL n i).getD k 0 < t.length := hc _ (by rw [List.getD_eq_getElem?_getD, List.getElem?_eq_getElem (by omega)]; exact List.getElem_mem _)
    simp only [rowsTo] at hr
    split at hr
    · exact ih (by omega) r hr
    · rename_i hne
      rcases List.mem_append.1 hr with hr | hr
      · exact ih (by omega) r hr
      · obtain rfl := List.mem_singleton.1 hr
        exact ⟨hne, by have := resT_len h hcx; show (resT t _).length ≤ 1000; omega, resT_mem h hcx⟩
theorem rows_small {t : List S45} {leaf : Int} {rows : List S71} {e : Int} (h : tree_rows.f t leaf = some (rows, e)) : rows.length ≤ 3 ∧ ∀ r ∈ rows, r.f1 ≠ [] ∧ r.f1.length ≤ 1000 ∧ ∀ x ∈ r.f1, 0 ≤ x ∧ x ≤ 1000 := by
  unfold tree_rows.f at h
  by_cases hw : t.all (fun n => wfI n.f1) = true
  · rw [if_pos hw] at h
    have h := Option.some.inj h
    by_cases hok : okB t = true
    · rw [if_pos hok] at h
      by_cases hc : 0 ≤ leaf ∧ leaf < lvsN t ∧ (nodeN t (2 * leaf).toNat).f0 ≠ 0
      · rw [if_pos hc] at h
        injection h with h1 h2
        subst h1
        have hne : t ≠ [] := by intro e; subst e; simp [lvsN] at hc; omega
        have hv := (ok_parts hok hne).1
        obtain ⟨hn, htl⟩ := lvs_at t hv
        obtain ⟨q1, q2, q3, q4⟩ := cop_at (lvsN t) leaf.toNat hn (by omega)
        have h3 := dirL_len (lvsN t) leaf.toNat
        have h4 := rowsTo_len t (lvsN t) leaf.toNat (dirL (lvsN t) leaf.toNat).length
        unfold rowsT
        exact ⟨by omega, rowsTo_mem hok _ _ (fun x hx => by rw [htl]; exact q3 x hx) _ (by omega)⟩
      · rw [if_neg hc] at h
        injection h with h1 h2
        subst h1
        simp
    · rw [if_neg hok] at h
      injection h with h1 h2
      subst h1
      simp
  · rw [if_neg hw] at h; cases h
def tree_Targets.f (t : List S45) (leaf : Int) (fresh : List Int) : Option (List (List Int) × Int) := if fresh.length ≤ 1000 then (tree_rows.f t leaf).map (fun r => (r.1.map (fun q => keepL fresh q.f1), r.2)) else none
theorem tree_Targets.calls (A0_0 : Option Addr) (c0_0 : Nat) (l0_0 : List (S45)) (a1 : Int) (A2 : Option Addr) (c2 : Nat) (l2 : List Int) (r1 : List (List Int)) (r2 : Int) (w : World) (hr0_0 : Kd.C k45 w A0_0 l0_0.length l0_0) (hc0_0 : l0_0.length ≤ c0_0) (hr2 : Kd.C (Kd.int .i64) w A2 l2.length l2) (hc2 : l2.length ≤ c2) (hT : TabG w) (h : tree_Targets.f l0_0 a1 l2 = some (r1, r2)) :
    Calls Tryd.prog 25 #[.agg #[.slice A0_0 l0_0.length c0_0], .int .i64 a1, .slice A2 l2.length c2] w fun e w' => ∃ v0_ : Value, e = .returned (.tuple #[v0_, .int .i64 r2]) ∧ Kd.S (Kd.slice 3 (Kd.int .i64)) 32 w' w.heap.size (fun _ => True) v0_ r1 ∧ Below w.heap.size w w' := by
  unfold tree_Targets.f at h
  by_cases hf : l2.length ≤ 1000
  · rw [if_pos hf] at h
    obtain ⟨⟨rows, e2⟩, h1, h2⟩ := Option.map_eq_some_iff.1 h
    injection h2 with h2 h3
    subst h2 h3
    obtain ⟨hl, hx⟩ := rows_small h1
    rcases Nat.eq_zero_or_pos rows.length with h0 | h0
    · obtain rfl := List.length_eq_zero_iff.1 h0
      exact targets_nil A0_0 c0_0 l0_0 a1 A2 c2 l2 e2 w ⟨hr0_0⟩ ⟨hc0_0⟩ ⟨hT⟩ ⟨h1⟩
    · exact targets_go A0_0 c0_0 l0_0 a1 A2 c2 l2 rows e2 w ⟨hr0_0⟩ ⟨hc0_0⟩ ⟨hr2⟩ ⟨hT⟩ ⟨h1⟩ hf hl ⟨hx⟩ h0
  · rw [if_neg hf] at h; cases h
end
end Go.Proofs.YtfgalpfiggnkpaaDoor.PT
