/- impl.CountByLetters' closure: it tells how many messages are written with some letters. -/
import Derived.Test.YtmdaggnfgghnfaaDoorMemo
import Derived.Deep.RegionHeld3
import Derived.Deep.RegionLawGrows
import Derived.StillTailTactics
import Derived.Maps.Own
namespace Go.Proofs.YtmdaggnfgghnfaaDoor.Cb
open Go Go.RowKit Go.Maps Go.Proofs.YtmdaggnfgghnfaaDoorW.PrintWords Go.Proofs.YtmdaggnfgghnfaaDoorW.PrintLast Go.Proofs.YtmdaggnfgghnfaaDoorW.PrintMore Go.Proofs.YtmdaggnfgghnfaaDoor.Key3 Go.Proofs.YtmdaggnfgghnfaaDoor.Cnt Go.Proofs.YtmdaggnfgghnfaaDoor.Memo
set_option linter.unusedVariables false
set_option linter.unusedSimpArgs false

theorem lits (x y z : Int) (h : Few x y z) : Tryd.prog.keyLits 3 58 (Value.agg #[.int .i64 x, .int .i64 y, .int .i64 z]).cells.toList = some [.int .i64 x, .int .i64 y, .int .i64 z] := by
  simp [Program.keyLits, Value.cells, Tryd.underlying58, cellsArr, cellsInt, Tryd.underlying3, wf_few h.1, wf_few h.2.1, wf_few h.2.2, List.range_succ]
theorem eql3 (x y z : Int) (h : Few x y z) (w : World) : (binOp BinOp.eql 58 (.agg #[.int .i64 x, .int .i64 y, .int .i64 z]) (.agg #[.int .i64 0, .int .i64 0, .int .i64 0])).run Tryd.prog w = .ok (.bool (decide (x = 0 ∧ y = 0 ∧ z = 0))) w := by
  have h0 : Few 0 0 0 := by unfold Few; omega
  have hf : ∀ a b c : Int, Value.formed Tryd.prog 58 (.agg #[.int .i64 a, .int .i64 b, .int .i64 c]) = true := fun a b c => by simp [Value.formed, Tryd.underlying58, cellsArr]
  obtain ⟨r, h1, h2⟩ := run_equalIn_deep (P := Tryd.prog) 9998 2 58 (by kernel_rfl) w 3 3 _ _ _ _ (hf x y z) (hf 0 0 0) (lits x y z h) (lits 0 0 0 h0)
  have e : r = decide (x = 0 ∧ y = 0 ∧ z = 0) := by
    cases r with
    | true => have := h2.1 rfl; simp at this; simp [this]
    | false => simp at h2; simp; omega
  have h1' : (Op.equalIn 10000 58 (.agg #[.int .i64 x, .int .i64 y, .int .i64 z]) (.agg #[.int .i64 0, .int .i64 0, .int .i64 0])).run Tryd.prog w = .ok r w := h1
  rw [run_eql_struct, h1', e]
  rfl
def Post (own : List (List Int)) (gm n base : Nat) (x y z : Int) (W : World) (e : Ending) (W' : World) : Prop :=
  e = .returned (.int .i64 (cnt own x y z)) ∧ KeepBut W W' gm none ∧ Below base W W' ∧ Memo own gm n W'

set_option maxHeartbeats 4000000 in
set_option maxRecDepth 100000 in
theorem zero_calls (own : List (List Int)) (gm n base gK gN gC : Nat) (W : World) (hb : base ≤ W.heap.size) (hM : Memo own gm n W) :
    Calls Tryd.prog 55 #[.agg #[.int .i64 0, .int .i64 0, .int .i64 0], .pointer (some ⟨gK, 0, none⟩), .pointer (some ⟨gN, 0, none⟩), .pointer (some ⟨gC, 0, none⟩)] W (Post own gm n base 0 0 0 W) := by
  have HM := Aside0.mk hM; clear hM
  have he : ∀ w : World, (binOp BinOp.eql 58 (.agg #[.int .i64 0, .int .i64 0, .int .i64 0]) (.agg #[.int .i64 0, .int .i64 0, .int .i64 0])).run Tryd.prog w = .ok (.bool true) w := fun w => by simpa using eql3 0 0 0 (by unfold Few; omega) w
  go_enter Tryd.func55, Tryd.ntmps55
  go_wp2
  go_ret
  exact ⟨rfl, KeepBut.of_below ((Below.refl _ _).alloc (Nat.le_refl _) _) gm none, (Below.refl _ _).alloc hb _, HM.out.kept (World.grownBy_alloc _ _ none) (by simp)⟩

theorem zeroE (w : World) : (zeroValue 3).run Tryd.prog w = .ok (.int .i64 0) w := by kernel_rfl
set_option maxHeartbeats 4000000 in
set_option maxRecDepth 100000 in
theorem hit_calls (own : List (List Int)) (gm n base gK gN gC : Nat) (W : World) (x y z : Int) (hf : Few x y z) (h0 : ¬ (x = 0 ∧ y = 0 ∧ z = 0)) (hb : base ≤ W.heap.size) (D : DataW Unit) (ho : W.ownsMap Tryd.prog 58 (plainElem Tryd.prog 3) gm n D) (hk : Known own D)
    (hh : Maps.has D (lit3 x y z) = true) (cK : W.cell? ⟨gK, 0, none⟩ = some (.map (some gm))) :
    Calls Tryd.prog 55 #[.agg #[.int .i64 x, .int .i64 y, .int .i64 z], .pointer (some ⟨gK, 0, none⟩), .pointer (some ⟨gN, 0, none⟩), .pointer (some ⟨gC, 0, none⟩)] W (Post own gm n base x y z W) := by
  have HM : Aside0 (Memo own gm n W) := ⟨⟨D, ho, hk⟩⟩
  have HO := Aside0.mk ho; clear ho
  have HKN := Aside0.mk (hk x y z hf hh); clear hk
  have HF := Aside0.mk hf
  have he : ∀ w : World, (binOp BinOp.eql 58 (.agg #[.int .i64 x, .int .i64 y, .int .i64 z]) (.agg #[.int .i64 0, .int .i64 0, .int .i64 0])).run Tryd.prog w = .ok (.bool false) w := fun w => by rw [eql3 x y z hf w]; simp [h0]
  clear hf
  have H0 := Aside0.mk h0; clear h0
  have lK : gK < W.heap.size := World.block_lt_of_cell? W _ cK
  have nK := World.new_ne W ⟨gK, 0, none⟩ cK
  go_enter Tryd.func55, Tryd.ntmps55
  go_wp2_with (at_lookup; refine wpList_lookup_own_ok_int _ rfl _ _ 55 rfl 58 3 .i64 law Tryd.underlying55 Tryd.underlying3 (zeroE _) gm n D rfl (HO.out.alloc _) _ (lit3 x y z) rfl HF.out.key ?_; intro c hat hwc; (have e : c = cnt own x y z := by have := HKN.out; rw [hat] at this; simpa using this); subst e; clear hat hwc)
  go_ret
  exact ⟨rfl, KeepBut.of_below ((Below.refl _ _).alloc (Nat.le_refl _) _) gm none, (Below.refl _ _).alloc hb _, HM.out.kept (World.grownBy_alloc _ _ none) (by simp)⟩

theorem row_at {W : World} {A : Option Addr} {own : List (List Int)} (h : Kd.C (Kd.slice 3 (Kd.int .i64)) W A own.length own) (i : Nat) (hi : i < own.length) :
    ∃ ad A1 c1, A = some ad ∧ W.cell? (ad.add i) = some (.slice A1 (own[i]).length c1) ∧ (own[i]).length ≤ c1 ∧ Kd.C (Kd.int .i64) W A1 (own[i]).length own[i] := by
  obtain ⟨ad, c, e, _, hK, hc0⟩ := Kd.C_get h ([] : List Int) (i : Int) (by omega) (by omega)
  have hc : ∀ j u, c[j]? = some u → W.cell? (ad.add ((i : Int).toNat * 1 + j)) = some u := hc0
  have hx : own.getD (i : Int).toNat [] = own[i] := by simp [List.getD_eq_getElem?_getD, List.getElem?_eq_getElem hi]
  rw [hx] at hK
  obtain ⟨A1, c1, rfl, h1, h2⟩ := hK
  have := hc 0 _ rfl
  simp at this
  exact ⟨ad, A1, c1, e, this, h1, h2⟩
/-- The sum behind i words. -/
def psum (own : List (List Int)) (x y z : Int) (i : Nat) : Int := (own.take i).foldl (fun s c => if Fits c x y z then wrap64 (s + cnt own (x - rd c 0) (y - rd c 1) (z - rd c 2)) else s) 0
theorem psum_succ (own : List (List Int)) (x y z : Int) (i : Nat) (h : i < own.length) : psum own x y z (i + 1) = if Fits own[i] x y z then wrap64 (psum own x y z i + cnt own (x - rd own[i] 0) (y - rd own[i] 1) (z - rd own[i] 2)) else psum own x y z i := by
  unfold psum
  rw [List.take_succ_eq_append_getElem h, List.foldl_append]
  rfl
theorem psum_all (own : List (List Int)) (hg : Cnt.Good own) (x y z : Int) (hf : Few x y z) (h0 : ¬ (x = 0 ∧ y = 0 ∧ z = 0)) : psum own x y z own.length = cnt own x y z := by
  unfold psum
  rw [List.take_length, cnt_step own hg x y z hf.1.1 hf.2.1.1 hf.2.2.1 h0]

theorem psum_bd (own : List (List Int)) (x y z : Int) : ∀ i, -9223372036854775808 ≤ psum own x y z i ∧ psum own x y z i ≤ 9223372036854775807
  | 0 => by simp [psum]
  | i + 1 => by
    by_cases h : i < own.length
    · rw [psum_succ own x y z i h]
      split
      · unfold wrap64; omega
      · exact psum_bd own x y z i
    · have : psum own x y z (i + 1) = psum own x y z i := by unfold psum; rw [List.take_of_length_le (by omega), List.take_of_length_le (by omega)]
      rw [this]
      exact psum_bd own x y z i
/-- Between the words. -/
structure Mid (own : List (List Int)) (gm N base : Nat) (W1 W : World) : Prop where
  keep : KeepBut W1 W gm none
  bel : Below base W1 W
  memo : Memo own gm N W

/-- What is left of a letter's count behind j letters. -/
def cv (xs c : List Int) (j t : Nat) : Int := if t < j then rd xs t - rd c t else rd xs t
def okb (xs c : List Int) : Nat → Bool
  | 0 => true
  | j + 1 => okb xs c j && decide (0 ≤ rd xs j - rd c j)
def cobj (xs c : List Int) (j : Nat) : Obj := .cells #[.int .i64 (cv xs c j 0), .int .i64 (cv xs c j 1), .int .i64 (cv xs c j 2)] 58 (0, 0)
theorem cobj_zero (x y z : Int) (c : List Int) : cobj [x, y, z] c 0 = .cells #[.int .i64 x, .int .i64 y, .int .i64 z] 58 (0, 0) := rfl
theorem cobj_cell {W : World} {b j t : Nat} {xs c : List Int} (h : W.heap[b]? = some (cobj xs c j)) (ht : t < 3) : W.cell? ⟨b, t, none⟩ = some (.int .i64 (cv xs c j t)) := by
  rcases (by omega : t = 0 ∨ t = 1 ∨ t = 2) with rfl | rfl | rfl <;> exact blk_cell h _
theorem cobj_frozen {W : World} {b j t : Nat} {xs c : List Int} (h : W.heap[b]? = some (cobj xs c j)) : W.frozen? ⟨b, t, none⟩ = false := blk_frozen h t
theorem cobj_store {W : World} {b j : Nat} {xs c : List Int} (h : W.heap[b]? = some (cobj xs c j)) (hj : j < 3) : (W.setCell ⟨b, j, none⟩ (.int .i64 (rd xs j - rd c j))).heap[b]? = some (cobj xs c (j + 1)) := by
  rcases (by omega : j = 0 ∨ j = 1 ∨ j = 2) with rfl | rfl | rfl <;> simp [World.setCell, Array.getElem?_modify, h, cobj, cv]
theorem okb_three (xs c : List Int) : okb xs c 3 = true ↔ (0 ≤ rd xs 0 - rd c 0 ∧ 0 ≤ rd xs 1 - rd c 1 ∧ 0 ≤ rd xs 2 - rd c 2) := by
  simp [okb, and_assoc]

set_option maxHeartbeats 8000000 in
set_option maxRecDepth 100000 in
theorem count_calls (own : List (List Int)) (hg : Cnt.Good own) (hol : own.length ≤ 12) (hlen : ∀ c ∈ own, c.length = 3 ∧ (rd c 0 ≤ 100 ∧ rd c 1 ≤ 100 ∧ rd c 2 ≤ 100)) (w1 : World) (gm base gK gN gC : Nat) (hgb : base ≤ gm) (A : Option Addr) (cc : Nat)
    (hown : ∀ W', KeepBut w1 W' gm none → Kd.C (Kd.slice 3 (Kd.int .i64)) W' A own.length own)
    (hK : w1.heap[gK]? = some (.cells #[.map (some gm)] 55 (0, 0))) (hN : w1.heap[gN]? = some (.cells #[.slice A own.length cc] 56 (0, 0)))
    (hC : w1.heap[gC]? = some (.cells #[.func (.func 55) #[] #[.pointer (some ⟨gK, 0, none⟩), .pointer (some ⟨gN, 0, none⟩), .pointer (some ⟨gC, 0, none⟩)]] 57 (0, 0)))
    (hne : gK ≠ gm ∧ gN ≠ gm ∧ gC ≠ gm) (s : Nat) :
    ∀ (x y z : Int) (n : Nat) (W : World), Few x y z → x + y + z = s → KeepBut w1 W gm none → base ≤ W.heap.size → Memo own gm n W → n + 13 ^ (s + 1) ≤ 10000000000000000 →
    Calls Tryd.prog 55 #[.agg #[.int .i64 x, .int .i64 y, .int .i64 z], .pointer (some ⟨gK, 0, none⟩), .pointer (some ⟨gN, 0, none⟩), .pointer (some ⟨gC, 0, none⟩)] W (Post own gm (n + 13 ^ (s + 1)) base x y z W) := by
  induction s using Nat.strongRecOn with
  | ind s ih =>
    intro x y z n W hf hs hk hb hM hn
    have cells : ∀ W', KeepBut w1 W' gm none → W'.cell? ⟨gK, 0, none⟩ = some (.map (some gm)) ∧ W'.cell? ⟨gN, 0, none⟩ = some (.slice A own.length cc) ∧ W'.cell? ⟨gC, 0, none⟩ = some (.func (.func 55) #[] #[.pointer (some ⟨gK, 0, none⟩), .pointer (some ⟨gN, 0, none⟩), .pointer (some ⟨gC, 0, none⟩)]) := by
      intro W' h
      have e1 := (h.2 gK (Array.getElem?_eq_some_iff.1 hK).1 hne.1 (by simp)).trans hK
      have e2 := (h.2 gN (Array.getElem?_eq_some_iff.1 hN).1 hne.2.1 (by simp)).trans hN
      have e3 := (h.2 gC (Array.getElem?_eq_some_iff.1 hC).1 hne.2.2 (by simp)).trans hC
      refine ⟨?_, ?_, ?_⟩ <;> simp [World.cell?, *]
    by_cases h0 : x = 0 ∧ y = 0 ∧ z = 0
    · obtain ⟨rfl, rfl, rfl⟩ := h0
      refine (zero_calls own gm n base gK gN gC W hb hM).mono fun e W' ⟨h1, h2, h3, h4⟩ => ⟨h1, h2, h3, h4.mono (Nat.le_add_right _ _)⟩
    obtain ⟨D, ho, hkn⟩ := hM
    by_cases hh : Maps.has D (lit3 x y z) = true
    · refine (hit_calls own gm n base gK gN gC W x y z hf h0 hb D ho hkn hh (cells W hk).1).mono fun e W' ⟨h1, h2, h3, h4⟩ => ⟨h1, h2, h3, h4.mono (Nat.le_add_right _ _)⟩
    have he : ∀ w : World, (binOp BinOp.eql 58 (.agg #[.int .i64 x, .int .i64 y, .int .i64 z]) (.agg #[.int .i64 0, .int .i64 0, .int .i64 0])).run Tryd.prog w = .ok (.bool false) w := fun w => by rw [eql3 x y z hf w]; simp [h0]
    have hh' : Maps.has D (lit3 x y z) = false := by simpa using hh
    obtain ⟨cK, cN, cC⟩ := cells W hk
    have lK : gK < W.heap.size := World.block_lt_of_cell? W _ cK
    have lN : gN < W.heap.size := World.block_lt_of_cell? W _ cN
    have lC : gC < W.heap.size := World.block_lt_of_cell? W _ cC
    have nK := World.new_ne W ⟨gK, 0, none⟩ cK
    have nN := World.new_ne W ⟨gN, 0, none⟩ cN
    have HO := Aside0.mk ho; clear ho
    have HKN := Aside0.mk hkn; clear hkn
    have HF := Aside0.mk hf; clear hf
    have H0 := Aside0.mk h0; clear h0
    have HCL := Aside0.mk cells; clear cells
    have HW := Aside0.mk hk; clear hk
    have HOW := Aside0.mk hown; clear hown
    have HG := Aside0.mk hg; clear hg
    have HLN := Aside0.mk hlen; clear hlen
    have IH := Aside0.mk ih; clear ih
    have HS := Aside0.mk hs; clear hs
    clear hh hK hN hC
    go_enter Tryd.func55, Tryd.ntmps55
    go_wp2_with (at_lookup; refine wpList_lookup_own_ok_int _ rfl _ _ 55 rfl 58 3 .i64 law Tryd.underlying55 Tryd.underlying3 (zeroE _) gm n D rfl (HO.out.alloc _) _ (lit3 x y z) rfl HF.out.key ?_; intro c hat hwc; clear hat hwc)
    go_loopw [8, 27] (fun v8 v27 wr => ∃ i : Nat, i ≤ own.length ∧ v27 = .int .i64 (i : Int) ∧ v8 = .int .i64 (psum own x y z i) ∧ Aside0 (Mid own gm (n + i * 13 ^ s) base (W.alloc (.cells #[.int .i64 x, .int .i64 y, .int .i64 z] 58)) wr)) (fun _ v27 _ => own.length - (intOf v27).toNat)
    case atStart => exact ⟨0, Nat.zero_le _, rfl, rfl, ⟨⟨KeepBut.refl _ _ _, Below.refl _ _, ⟨D, by simpa using HO.out.alloc _, HKN.out⟩⟩⟩⟩
    case round =>
      obtain ⟨i, hi, rfl, rfl, HM⟩ := hrel
      by_cases hlast : i = own.length
      · subst hlast
        obtain ⟨hk1, hb1, ⟨D1, ho1, hk2⟩⟩ := HM.out
        have hkw : KeepBut W wr gm none := KeepBut.trans (KeepBut.of_below ((Below.refl _ _).alloc (Nat.le_refl _) _) gm none) hk1 (.inl rfl)
        have hcc := (HCL.out wr (KeepBut.trans HW.out hkw (.inl rfl))).1
        have hgl : gm < W.heap.size := HO.out.lt
        have hbox : wr.heap[W.heap.size]? = some (.cells #[.int .i64 x, .int .i64 y, .int .i64 z] 58 (0, 0)) := (hk1.2 W.heap.size (by simp) (by omega) (by simp)).trans (blk_new W _)
        have b0 : wr.cell? ⟨W.heap.size, 0, none⟩ = some (.int .i64 x) := blk_cell hbox 0
        have b1 : wr.cell? ⟨W.heap.size, 1, none⟩ = some (.int .i64 y) := blk_cell hbox 1
        have b2 : wr.cell? ⟨W.heap.size, 2, none⟩ = some (.int .i64 z) := blk_cell hbox 2
        have HO1 := Aside0.mk ho1; clear ho1
        have HK1 := Aside0.mk hk1; clear hk1
        have HB1 := Aside0.mk hb1; clear hb1
        have HK2 := Aside0.mk hk2; clear hk2
        clear cK cN cC
        have HNN : Aside0 (n + own.length * 13 ^ s + 1 ≤ n + 13 ^ (s + 1)) := ⟨by
          have h1 : own.length * 13 ^ s ≤ 12 * 13 ^ s := Nat.mul_le_mul_right _ hol
          have h2 : 13 ^ (s + 1) = 13 * 13 ^ s := by rw [Nat.pow_succ]; exact Nat.mul_comm _ _
          have h3 : 0 < 13 ^ s := Nat.pow_pos (by decide)
          omega⟩
        go_wp2_with (at_mapUpdate; refine wpList_mapUpdate_own _ rfl _ _ _ 55 rfl 58 3 law Tryd.underlying55 _ gm _ D1 rfl HO1.out ?lt _ _ (lit3 x y z) rfl rfl HF.out.key (.lit (.int .i64 (psum own x y z own.length))) [] (plainElem_int Tryd.underlying3 (WalkArith.wf_i64 (psum_bd own x y z own.length))) ?_; (case lt => have := HNN.out; unfold maxLen; omega); intro w2 hown2 hgrow2)
        go_ret
        rw [psum_all own HG.out x y z HF.out H0.out] at hown2 ⊢
        refine ⟨rfl, KeepBut.trans hkw ⟨hgrow2.size, fun i hi hne2 _ => hgrow2.block i hi (fun e => hne2 (by injection e))⟩ (.inl rfl), ?_, ⟨_, hown2.mono HNN.out, ?_⟩⟩
        · have hbb := ((Below.refl base W).alloc hb (.cells #[.int .i64 x, .int .i64 y, .int .i64 z] 58)).trans HB1.out
          exact hbb.grown hgrow2 (Nat.le_trans hb hbb.size) (fun k hk => by cases hk; exact hgb)
        · exact known_put HO1.out HK2.out HF.out
      · obtain ⟨wo, ewo⟩ : ∃ wo : World, wo = wr := ⟨_, rfl⟩
        subst ewo
        obtain ⟨hk1, hb1, hm1⟩ := HM.out
        have hkw : KeepBut W wo gm none := KeepBut.trans (KeepBut.of_below ((Below.refl _ _).alloc (Nat.le_refl _) _) gm none) hk1 (.inl rfl)
        have hkk := KeepBut.trans HW.out hkw (.inl rfl)
        obtain ⟨dK, dN, dC⟩ := HCL.out wo hkk
        obtain ⟨ad, A1, c1, rfl, hrow, hrl, hrc⟩ := row_at (HOW.out wo hkk) i (by omega)
        have hgl : gm < W.heap.size := HO.out.lt
        have hbox : wo.heap[W.heap.size]? = some (.cells #[.int .i64 x, .int .i64 y, .int .i64 z] 58 (0, 0)) := (hk1.2 W.heap.size (by simp) (by omega) (by simp)).trans (blk_new W _)
        have b0 : wo.cell? ⟨W.heap.size, 0, none⟩ = some (.int .i64 x) := blk_cell hbox 0
        have b1 : wo.cell? ⟨W.heap.size, 1, none⟩ = some (.int .i64 y) := blk_cell hbox 1
        have b2 : wo.cell? ⟨W.heap.size, 2, none⟩ = some (.int .i64 z) := blk_cell hbox 2
        have d1 : decide ((i : Int) < (own.length : Int)) = true := by simp; omega
        clear cK cN cC
        go_wp2
        go_loopw [12, 32] (fun v12 v32 wq => ∃ j : Nat, j ≤ 3 ∧ v32 = .int .i64 (j : Int) ∧ v12 = .bool (okb [x, y, z] own[i] j) ∧
            Aside0 (Below wo.heap.size wo wq ∧ wq.heap[wo.heap.size]? = some (cobj [x, y, z] own[i] j))) (fun _ v32 _ => 3 - (intOf v32).toNat)
        case atStart =>
          refine ⟨0, by omega, rfl, by rfl, ⟨?_, ?_⟩⟩
          · exact (Below.refl _ _).alloc (Nat.le_refl _) _
          · simpa [cobj_zero] using blk_new wo (.cells #[.int .i64 x, .int .i64 y, .int .i64 z] 58)
        case round =>
          obtain ⟨j, hj, rfl, rfl, HJ⟩ := hrel
          obtain ⟨hbq, hq⟩ := HJ.out
          have hl3 := (HLN.out own[i] (List.getElem_mem _)).1
          by_cases hj3 : j = 3
          · subst hj3
            have hq3 : wr.heap[wo.heap.size]? = some (.cells #[.int .i64 (x - rd own[i] 0), .int .i64 (y - rd own[i] 1), .int .i64 (z - rd own[i] 2)] 58 (0, 0)) := hq
            have q0 : wr.cell? ⟨wo.heap.size, 0, none⟩ = some (.int .i64 (x - rd own[i] 0)) := blk_cell hq3 0
            have q1 : wr.cell? ⟨wo.heap.size, 1, none⟩ = some (.int .i64 (y - rd own[i] 1)) := blk_cell hq3 1
            have q2 : wr.cell? ⟨wo.heap.size, 2, none⟩ = some (.int .i64 (z - rd own[i] 2)) := blk_cell hq3 2
            have hko : KeepBut W wr gm none := KeepBut.trans hkw (KeepBut.of_below hbq gm none) (.inl rfl)
            have hkr := KeepBut.trans HW.out hko (.inl rfl)
            obtain ⟨eK, eN, eC⟩ := HCL.out wr hkr
            have hmr : Memo own gm (n + i * 13 ^ s) wr := hm1.move (hbq.block gm hm1.lt)
            have hkb : KeepBut (W.alloc (.cells #[.int .i64 x, .int .i64 y, .int .i64 z] 58)) wr gm none := KeepBut.trans hk1 (KeepBut.of_below hbq gm none) (.inl rfl)
            have hbs : base ≤ wo.heap.size := Nat.le_trans hb hkw.1
            have hbb : Below base (W.alloc (.cells #[.int .i64 x, .int .i64 y, .int .i64 z] 58)) wr := hb1.trans (hbq.mono hbs)
            have HMR := Aside0.mk hmr; clear hmr
            have HKR := Aside0.mk hkr; clear hkr
            have HKB := Aside0.mk hkb; clear hkb
            have HBB := Aside0.mk hbb; clear hbb
            by_cases hfit : Fits own[i] x y z
            · have hd : okb [x, y, z] own[i] 3 = true := (okb_three _ _).2 hfit
              have hgc := HG.out own[i] (List.getElem_mem _)
              have hff := hfit
              unfold Fits at hff
              have hfw := HF.out
              have hsm := HS.out
              obtain ⟨s', hs'⟩ : ∃ s' : Nat, (x - rd own[i] 0) + (y - rd own[i] 1) + (z - rd own[i] 2) = s' := ⟨((x - rd own[i] 0) + (y - rd own[i] 1) + (z - rd own[i] 2)).toNat, by omega⟩
              have hlt : s' < s := by omega
              have hfew : Few (x - rd own[i] 0) (y - rd own[i] 1) (z - rd own[i] 2) := by unfold Few at hfw ⊢; omega
              have hp1 : 13 ^ (s' + 1) ≤ 13 ^ s := Nat.pow_le_pow_right (by omega) (by omega)
              have hp2 : (i + 1) * 13 ^ s ≤ 12 * 13 ^ s := Nat.mul_le_mul_right _ (by omega)
              have hp3 : 13 ^ (s + 1) = 13 * 13 ^ s := by rw [Nat.pow_succ]; exact Nat.mul_comm _ _
              have hp4 : (i + 1) * 13 ^ s = i * 13 ^ s + 13 ^ s := Nat.succ_mul _ _
              have call := IH.out s' hlt _ _ _ (n + i * 13 ^ s) wr hfew hs' HKR.out (Nat.le_trans hbs (by have := hbq.size; omega)) HMR.out (by omega)
              have CALL := Aside0.mk call; clear call
              have HP : Aside0 (n + i * 13 ^ s + 13 ^ (s' + 1) ≤ n + (i + 1) * 13 ^ s) := ⟨by omega⟩
              clear hp1 hp2 hp3 hp4 hs' hsm hfw hgc
              rw [hd]
              go_wp2_with (go_at_call 55; refine CALL.out.mono ?_; rintro e w3 ⟨rfl, hk3, hb3, hm3⟩; have HK3 := Aside0.mk hk3; clear hk3; have HB3 := Aside0.mk hb3; clear hb3; have HM3 := Aside0.mk hm3; clear hm3)
              go_roundw
              case rel =>
                refine ⟨i + 1, by omega, by go_num, ?_, ⟨⟨KeepBut.trans HKB.out HK3.out (.inl rfl), HBB.out.trans HB3.out, HM3.out.mono HP.out⟩⟩⟩
                rw [psum_succ own x y z i (by omega), if_pos hfit]
              case measure => simp [intOf]; omega
            · have hd : okb [x, y, z] own[i] 3 = false := by
                cases hb : okb [x, y, z] own[i] 3 with
                | false => rfl
                | true => exact absurd ((okb_three _ _).1 hb) hfit
              rw [hd]
              go_wp2
              go_roundw
              case rel =>
                refine ⟨i + 1, by omega, by go_num, ?_, ⟨⟨HKB.out, HBB.out, HMR.out.mono ?_⟩⟩⟩
                · rw [psum_succ own x y z i (by omega), if_neg hfit]
                · exact Nat.add_le_add_left (Nat.mul_le_mul_right _ (by omega)) _
              case measure => simp [intOf]; omega
          · have hj2 : j < 3 := by omega
            obtain ⟨ar, rfl, hr⟩ := Kd.at_int (Kd.C_below hrc hbq) (j : Int) (by omega) (by omega)
            rw [Int.toNat_natCast] at hr
            have q0 := cobj_cell hq hj2
            rw [show cv [x, y, z] own[i] j j = rd [x, y, z] j by simp [cv]] at q0
            have f0 : wr.frozen? ⟨wo.heap.size, j, none⟩ = false := cobj_frozen hq
            have hz0 : (j : Int) < 3 := by omega
            have hxb : 0 ≤ rd [x, y, z] j ∧ rd [x, y, z] j ≤ 12 := by
              have := HF.out
              unfold Few at this
              rcases (by omega : j = 0 ∨ j = 1 ∨ j = 2) with rfl | rfl | rfl <;> simp [rd] <;> omega
            have hcb : 0 ≤ rd own[i] j ∧ rd own[i] j ≤ 100 := by
              have h1 := (HLN.out own[i] (List.getElem_mem _)).2
              have h2 := (HG.out own[i] (List.getElem_mem _)).1
              rcases (by omega : j = 0 ∨ j = 1 ∨ j = 2) with rfl | rfl | rfl
              · exact ⟨h2.1, h1.1⟩
              · exact ⟨h2.2.1, h1.2.1⟩
              · exact ⟨h2.2.2, h1.2.2⟩
            obtain ⟨hxb0, hxb1⟩ := hxb
            obtain ⟨hcb0, hcb1⟩ := hcb
            have hs := cobj_store hq hj2
            have hbs : Below wo.heap.size wo (wr.setCell ⟨wo.heap.size, j, none⟩ (.int .i64 (rd [x, y, z] j - rd own[i] j))).drew := below_drew (hbq.setCell (by simp) _)
            have HSS : Aside0 (Below wo.heap.size wo (wr.setCell ⟨wo.heap.size, j, none⟩ (.int .i64 (rd [x, y, z] j - rd own[i] j))).drew ∧ (wr.setCell ⟨wo.heap.size, j, none⟩ (.int .i64 (rd [x, y, z] j - rd own[i] j))).drew.heap[wo.heap.size]? = some (cobj [x, y, z] own[i] (j + 1))) := ⟨hbs, hs⟩
            clear hs hbs hbq hq HJ
            cases hok : okb [x, y, z] own[i] j with
            | false =>
              have HOK := Aside0.mk hok; clear hok
              go_wp2
              go_region
              go_wp2
              go_roundw
              case rel => exact ⟨j + 1, by omega, by go_num, by simp [okb, HOK.out], HSS⟩
              case measure => simp [intOf]; omega
            | true =>
              have HOK := Aside0.mk hok; clear hok
              go_wp2
              go_region
              go_wp2
              go_roundw
              case rel => exact ⟨j + 1, by omega, by go_num, by simp [okb, HOK.out], HSS⟩
              case measure => simp [intOf]; omega

end Go.Proofs.YtmdaggnfgghnfaaDoor.Cb
