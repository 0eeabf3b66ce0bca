/- impl.CountByLetters: how many messages are written with given counts of letters. -/
import Derived.Test.YtmdaggnfgghnfaaDoorCb
import Derived.Test.YtmdaggnfgghnfaaDoorSrow
import Derived.Test.YtmdaggnfgghnfaaDoorPc4
import Derived.Test.YtmdaggnfgghnfaaDoorPc5
import Derived.Deep.RegionHeld3
import Derived.Deep.RegionLawGrows
import Derived.Laws.EntriesVeiled
import Derived.Laws.Cover3
namespace Go.Proofs.YtmdaggnfgghnfaaDoor.Cbl
open Go Go.RowKit Go.Maps Go.Proofs.YtmdaggnfgghnfaaDoorW.PrintWords Go.Proofs.YtmdaggnfgghnfaaDoorW.PrintLast Go.Proofs.YtmdaggnfgghnfaaDoorW.PrintMore Go.Proofs.YtmdaggnfgghnfaaDoor.Key3 Go.Proofs.YtmdaggnfgghnfaaDoor.Cnt Go.Proofs.YtmdaggnfgghnfaaDoor.Memo Go.Proofs.YtmdaggnfgghnfaaDoor.Cb Go.Proofs.YtmdaggnfgghnfaaDoor.Srow
set_option linter.unusedVariables false
set_option linter.unusedSimpArgs false

/-- The letters' numbers of all words. -/
def rows (k : Nat) : List ByteArray → Option (List (List Int))
  | [] => some []
  | s :: l => (Go.Proofs.YtmdaggnfgghnfaaDoor.Pc.impl_lettersOf.f k s).bind fun c => (rows k l).bind fun r => some (c :: r)
theorem rows_mono (k : Nat) : ∀ l, LeO (rows k l) (rows (k + 1) l)
  | [] => LeO.refl _
  | s :: l => LeO.bind (Go.Proofs.YtmdaggnfgghnfaaDoor.Pc.impl_lettersOf.mono _ _) (fun _ => LeO.bind (rows_mono k l) (fun _ => LeO.refl _))
theorem rows_at (k : Nat) : ∀ (l : List ByteArray) (own : List (List Int)), rows k l = some own → own.length = l.length ∧ ∀ i (h : i < l.length) (h' : i < own.length), Go.Proofs.YtmdaggnfgghnfaaDoor.Pc.impl_lettersOf.f k l[i] = some own[i]
  | [], own, h => by
    simp [rows] at h
    subst h
    exact ⟨rfl, fun i h => absurd h (Nat.not_lt_zero _)⟩
  | s :: l, own, h => by
    obtain ⟨c, hc, h⟩ := Option.bind_eq_some_iff.mp h
    obtain ⟨r, hr, h⟩ := Option.bind_eq_some_iff.mp h
    injection h with h
    subst h
    obtain ⟨h1, h2⟩ := rows_at k l r hr
    refine ⟨by simp [h1], fun i hi hi' => ?_⟩
    cases i with
    | zero => simpa using hc
    | succ i => simpa using h2 i (by simpa using hi) (by simpa using hi')
/-- What is asked of the words' letters. -/
def Ok (own : List (List Int)) : Prop := Cnt.Good own ∧ own.length ≤ 12 ∧ ∀ c ∈ own, c.length = 3 ∧ (rd c 0 ≤ 100 ∧ rd c 1 ≤ 100 ∧ rd c 2 ≤ 100)
instance (x y z : Int) : Decidable (Few x y z) := by unfold Few; exact inferInstance
instance (own : List (List Int)) : Decidable (Cnt.Good own) := by unfold Cnt.Good; exact inferInstance
instance (own : List (List Int)) : Decidable (Ok own) := by unfold Ok; exact inferInstance
def impl_CountByLetters.f (k : Nat) (l0 : List ByteArray) (l1 : List Int) : Option (Int × Bool) :=
  (Go.Proofs.YtmdaggnfgghnfaaDoor.Pc.impl_isSet.f k l0).bind fun t => if t = true then (Go.Proofs.YtmdaggnfgghnfaaDoor.Pc.impl_areCounts.f k l1).bind fun u => if u = true then (rows k l0).bind fun own =>
    if Ok own ∧ l1.length = 3 ∧ Few (rd l1 0) (rd l1 1) (rd l1 2) ∧ rd l1 0 + rd l1 1 + rd l1 2 ≤ 12 then some (cnt own (rd l1 0) (rd l1 1) (rd l1 2), true) else none
  else some (0, false) else some (0, false)

theorem impl_CountByLetters.mono : ∀ l0 l1 k, LeO (impl_CountByLetters.f k l0 l1) (impl_CountByLetters.f (k + 1) l0 l1) := by
  intro l0 l1 k
  unfold impl_CountByLetters.f
  exact LeO.bind (Go.Proofs.YtmdaggnfgghnfaaDoor.Pc.impl_isSet.mono _ _) (fun t => LeO.ite (LeO.bind (Go.Proofs.YtmdaggnfgghnfaaDoor.Pc.impl_areCounts.mono _ _) (fun u => LeO.ite (LeO.bind (rows_mono k l0) (fun _ => LeO.refl _)) (LeO.refl _))) (LeO.refl _))

/-- Ahead of the closure's call. -/
structure Pre (own : List (List Int)) (w : World) (gm gK gN : Nat) (ov : Value) (outs : List (List Int)) (W : World) : Prop where
  memo : Memo own gm 0 W
  bK : W.heap[gK]? = some (.cells #[.map (some gm)] 55 (0, 0))
  bN : W.heap[gN]? = some (.cells #[ov] 56 (0, 0))
  rows : Kd.S (Kd.slice 3 (Kd.int .i64)) 23 W w.heap.size (fun k => k ≠ gm ∧ k ≠ gK ∧ k ≠ gN) ov outs
  bel : Below w.heap.size w W

section
variable {own : List (List Int)} {w W W' : World} {gm gK gN : Nat} {ov : Value} {outs : List (List Int)}
theorem Pre.lts (h : Pre own w gm gK gN ov outs W) : gm < W.heap.size ∧ gK < W.heap.size ∧ gN < W.heap.size := ⟨h.memo.lt, blk_lt h.bK, blk_lt h.bN⟩
theorem Pre.below (h : Pre own w gm gK gN ov outs W) (hb : Below W.heap.size W W') : Pre own w gm gK gN ov outs W' :=
  ⟨h.memo.move (hb.block gm h.lts.1), blk_below h.bK hb, blk_below h.bN hb, Kd.S_below h.rows hb, below_step h.bel hb⟩
theorem Pre.alloc (h : Pre own w gm gK gN ov outs W) (o : Obj) : Pre own w gm gK gN ov outs (W.alloc o) := h.below (below_alloc (Below.refl _ _) o)
theorem Pre.drew (h : Pre own w gm gK gN ov outs W) : Pre own w gm gK gN ov outs W.drew := h.below (below_drew (Below.refl _ _))
theorem Pre.drewN (h : Pre own w gm gK gN ov outs W) (n : Nat) : Pre own w gm gK gN ov outs (W.drewN n) := h.below (pw_below_drewN (Below.refl _ _) n)
theorem Pre.cN (h : Pre own w gm gK gN ov outs W) : W.cell? ⟨gN, 0, none⟩ = some ov ∧ W.frozen? ⟨gN, 0, none⟩ = false := ⟨blk_cell h.bN 0, blk_frozen h.bN 0⟩
theorem Pre.fresh (h : Pre own w gm gK gN ov outs W) (k : Nat) (hk : W.heap.size ≤ k) : (k ≠ gm ∧ k ≠ gK ∧ k ≠ gN) ∧ some k ≠ ov.ownBlock := by
  obtain ⟨h1, h2, h3⟩ := h.lts
  refine ⟨⟨by omega, by omega, by omega⟩, fun e => ?_⟩
  have := Kd.S_lt h.rows k e.symm
  omega
end
theorem pre_start (own : List (List Int)) (w w1 : World) (nd : Nat) (hb : Below w.heap.size w w1) :
    Pre own w w1.heap.size (w1.heap.size + 1) (w1.heap.size + 1 + 1 + 1) (.slice (some ⟨w1.heap.size + 1 + 1, 0, none⟩) 0 0) [] (((((w1.drewN nd).alloc (.map #[] 0)).alloc (.cells #[.map (some w1.heap.size)] 55)).alloc (.cells #[] 23)).alloc (.cells #[.slice (some ⟨w1.heap.size + 1 + 1, 0, none⟩) 0 0] 56)) := by
  have hs := hb.size
  have hm := Memo.start own (w1.drewN nd)
  have mv : ∀ {W : World} (o : Obj), Memo own w1.heap.size 0 W → Memo own w1.heap.size 0 (W.alloc o) := fun o h => h.move ((Below.heap_alloc _ _ _ h.lt))
  refine ⟨mv _ (mv _ (mv _ hm)), up (up (new_at (by simp))), new_at (by simp), ?_, ?_⟩
  · have h0 := R_none (Kd.slice 3 (Kd.int .i64)) 23 (((w1.drewN nd).alloc (.map #[] 0)).alloc (.cells #[.map (some w1.heap.size)] 55)) w.heap.size (by simp; omega) (fun k => k ≠ w1.heap.size ∧ k ≠ w1.heap.size + 1 ∧ k ≠ w1.heap.size + 1 + 1 + 1) (by refine ⟨?_, ?_, ?_⟩ <;> simp <;> omega)
    have h1 := Kd.S_alloc h0 (.cells #[.slice (some ⟨w1.heap.size + 1 + 1, 0, none⟩) 0 0] 56)
    simpa using h1
  · exact below_alloc (below_alloc (below_alloc (below_alloc (pw_below_drewN hb nd) _) _) _) _

theorem pre_fin {own : List (List Int)} {w wo W w1 : World} {gm gK gN i : Nat} {ov v1 : Value} (hi : i < own.length) (hne : gm ≠ gN ∧ gK ≠ gN) (hbN : w.heap.size ≤ gN) (hP : Pre own w gm gK gN ov (own.take i) wo) (hb : Below wo.heap.size wo W) (hr : Kd.S (Kd.slice 3 (Kd.int .i64)) 23 w1 w.heap.size (fun k => k ≠ gm ∧ k ≠ gK ∧ k ≠ gN) v1 (own.take i ++ [own[i]])) (hg : W.grownBy w1 ov.ownBlock) :
    Pre own w gm gK gN v1 (own.take (i + 1)) (w1.setCell ⟨gN, 0, none⟩ v1) := by
  have hPW := hP.below hb
  obtain ⟨l1, l2, l3⟩ := hPW.lts
  have hsame : ∀ k, k < W.heap.size → (k = gm ∨ k = gK ∨ k = gN) → w1.heap[k]? = W.heap[k]? := by
    intro k hk hc
    refine hg.block k hk (fun e => ?_)
    have := (Kd.S_R hP.rows).1 k e.symm
    omega
  refine ⟨?_, ?_, ?_, ?_, ?_⟩
  · exact (hPW.memo.move (hsame gm l1 (by simp))).move (Below.heap_setCell _ _ _ _ hne.1)
  · exact (Below.heap_setCell _ _ _ _ hne.2).trans ((hsame gK l2 (by simp)).trans hPW.bK)
  · exact blk_put ((hsame gN l3 (by simp)).trans hPW.bN) 0 v1 rfl
  · rw [List.take_succ_eq_append_getElem hi]
    exact Kd.S_far hr (fun k hk => hk.2.2) _
  · exact (hPW.bel.grown hg hPW.bel.size (fun k hk => Kd.S_base hP.rows k hk)).setCell (p := ⟨gN, 0, none⟩) hbN _
theorem info1 : (Tryd.prog.info? 23).map (fun i => (i.zero, i.size, i.bytes)) = some (some (.slice none 0 0), 1, 24) := by kernel_rfl

/-- The call of the closure, ready. -/
theorem ready {own : List (List Int)} (hok : Ok own) {w w1 wr : World} {ov : Value} (hb1 : Below w.heap.size w w1) (hP : Pre own w w1.heap.size (w1.heap.size + 1) (w1.heap.size + 1 + 1 + 1) ov own wr) (x y z : Int) (hf : Few x y z) (hs : x + y + z ≤ 12) (W4 : World)
    (hW4 : W4 = wr.alloc (.cells #[.func (.func 55) #[] #[.pointer (some ⟨w1.heap.size + 1, 0, none⟩), .pointer (some ⟨w1.heap.size + 1 + 1 + 1, 0, none⟩), .pointer (some ⟨wr.heap.size, 0, none⟩)]] 57)) :
    ∀ W, Below W4.heap.size W4 W → Calls Tryd.prog 55 #[.agg #[.int .i64 x, .int .i64 y, .int .i64 z], .pointer (some ⟨w1.heap.size + 1, 0, none⟩), .pointer (some ⟨w1.heap.size + 1 + 1 + 1, 0, none⟩), .pointer (some ⟨wr.heap.size, 0, none⟩)] W
      fun e w' => e = .returned (.int .i64 (cnt own x y z)) ∧ KeepBut W4 w' w1.heap.size none ∧ Below w.heap.size w w' := by
  intro W hW
  obtain ⟨hg, hol, hlen⟩ := hok
  have hP4 : Pre own w w1.heap.size (w1.heap.size + 1) (w1.heap.size + 1 + 1 + 1) ov own W4 := by rw [hW4]; exact hP.alloc _
  have hPW := hP4.below hW
  obtain ⟨A, cc, rfl, hcc, _⟩ := Kd.S_reads hP4.rows
  obtain ⟨l1, l2, l3⟩ := hP.lts
  obtain ⟨s, hss⟩ : ∃ s : Nat, x + y + z = s := ⟨(x + y + z).toNat, by have := hf; unfold Few at this; omega⟩
  have hC : W4.heap[wr.heap.size]? = some (.cells #[.func (.func 55) #[] #[.pointer (some ⟨w1.heap.size + 1, 0, none⟩), .pointer (some ⟨w1.heap.size + 1 + 1 + 1, 0, none⟩), .pointer (some ⟨wr.heap.size, 0, none⟩)]] 57 (0, 0)) := by rw [hW4]; exact blk_new _ _
  have hs1 := hb1.size
  have hp : 13 ^ (s + 1) ≤ 13 ^ 13 := Nat.pow_le_pow_right (by omega) (by omega)
  have hk4 : KeepBut W4 W w1.heap.size none := KeepBut.of_below hW _ _
  refine (count_calls own hg hol hlen W4 w1.heap.size w.heap.size (w1.heap.size + 1) (w1.heap.size + 1 + 1 + 1) wr.heap.size hs1 A cc
    (Kd.C_foot_own (Kd.S_R hP4.rows) (fun k hk => hk.1)) hP4.bK hP4.bN hC (by omega) s x y z 0 W hf hss hk4 hPW.bel.size hPW.memo (by omega)).mono ?_
  rintro e w' ⟨rfl, h2, h3, h4⟩
  exact ⟨rfl, KeepBut.trans hk4 h2 (.inl rfl), hPW.bel.trans h3⟩
set_option maxHeartbeats 1000000 in
set_option maxRecDepth 100000 in
theorem impl_CountByLetters.calls (k : Nat) (A0 : Option Addr) (c0 : Nat) (l0 : List ByteArray) (A1 : Option Addr) (c1 : Nat) (l1 : List Int) (r1 : Int) (r2 : Bool) (w : World) (hr0 : Kd.C Kd.string w A0 l0.length l0) (hc0 : l0.length ≤ c0) (hr1 : Kd.C (Kd.int .i64) w A1 l1.length l1) (hc1 : l1.length ≤ c1) (h : impl_CountByLetters.f k l0 l1 = some (r1, r2)) :
    Calls Tryd.prog 13 #[.slice A0 l0.length c0, .slice A1 l1.length c1] w fun e w' => e = .returned (.tuple #[.int .i64 r1, .bool r2]) ∧ Below w.heap.size w w' := by
  unfold impl_CountByLetters.f at h
  obtain ⟨t, ht, h⟩ := Option.bind_eq_some_iff.mp h
  have HT := Aside0.mk ht; clear ht
  have HR0 := Aside0.mk hr0; clear hr0
  have HC0 := Aside0.mk hc0; clear hc0
  have HR1 := Aside0.mk hr1; clear hr1
  have HC1 := Aside0.mk hc1; clear hc1
  cases t with
  | false =>
    rw [if_neg (by simp)] at h
    injection h with h
    injection h with h1 h2
    subst h1
    subst h2
    go_enter Tryd.func13, Tryd.ntmps13
    go_wp2_with (first
        | (go_at_call 52; with_reducible refine (Go.Proofs.YtmdaggnfgghnfaaDoor.Pc.impl_isSet.calls k A0 c0 l0 false _ HR0.out HC0.out HT.out).mono ?_; rintro e w1 ⟨rfl, hb1⟩))
    go_ret2
    exact ⟨rfl, hb1⟩
  | true =>
    rw [if_pos rfl] at h
    obtain ⟨u, hu, h⟩ := Option.bind_eq_some_iff.mp h
    have HU := Aside0.mk hu; clear hu
    cases u with
    | false =>
      rw [if_neg (by simp)] at h
      injection h with h
      injection h with h1 h2
      subst h1
      subst h2
      go_enter Tryd.func13, Tryd.ntmps13
      go_wp2_with (first
        | (go_at_call 52; with_reducible refine (Go.Proofs.YtmdaggnfgghnfaaDoor.Pc.impl_isSet.calls k A0 c0 l0 true _ HR0.out HC0.out HT.out).mono ?_; rintro e w1 ⟨rfl, hb1⟩; have HB1 := Aside0.mk hb1; clear hb1)
        | (go_at_call 53; with_reducible refine (Go.Proofs.YtmdaggnfgghnfaaDoor.Pc.impl_areCounts.calls k A1 c1 l1 false _ (Kd.C_below HR1.out HB1.out) HC1.out HU.out).mono ?_; rintro e w2 ⟨rfl, ⟨nd, rfl⟩⟩))
      go_ret2
      exact ⟨rfl, pw_below_drewN HB1.out nd⟩
    | true =>
      rw [if_pos rfl] at h
      obtain ⟨own, ho, h⟩ := Option.bind_eq_some_iff.mp h
      split at h
      case isFalse => cases h
      rename_i hok
      injection h with h
      injection h with h1 h2
      subst h1
      subst h2
      obtain ⟨x, y, z, rfl⟩ : ∃ x y z, l1 = [x, y, z] := by
        have hl3 := hok.2.1
        match l1, hl3 with
        | [x, y, z], _ => exact ⟨x, y, z, rfl⟩
      have hac : ∀ W, Kd.C (Kd.int .i64) W A1 3 [x, y, z] → Calls Tryd.prog 53 #[.slice A1 3 c1] W fun e w' => e = .returned (.bool true) ∧ Drawn0 W w' := fun W h => Go.Proofs.YtmdaggnfgghnfaaDoor.Pc.impl_areCounts.calls k A1 c1 [x, y, z] true W h HC1.out HU.out
      have hfw : Few x y z := hok.2.2.1
      have hsm : x + y + z ≤ 12 := hok.2.2.2
      have HR3 : Aside0 (Kd.C (Kd.int .i64) w A1 3 [x, y, z]) := ⟨HR1.out⟩
      have HAC := Aside0.mk hac; clear hac
      show Calls Tryd.prog 13 #[.slice A0 l0.length c0, .slice A1 3 c1] w fun e w' => e = .returned (.tuple #[.int .i64 (cnt own x y z), .bool true]) ∧ Below w.heap.size w w'
      obtain ⟨hol, hoa⟩ := rows_at k l0 own ho
      have HOK := Aside0.mk hok; clear hok
      have HOL := Aside0.mk hol; clear hol
      have HOA := Aside0.mk hoa; clear hoa ho
      clear h
      have hmm := @run_makeMap Tryd.prog
      have hl12 : l0.length ≤ 12 := by have := HOK.out.1.2.1; have := HOL.out; omega
      go_enter Tryd.func13, Tryd.ntmps13
      go_wp2_with (first
        | (go_at_call 52; with_reducible refine (Go.Proofs.YtmdaggnfgghnfaaDoor.Pc.impl_isSet.calls k A0 c0 l0 true _ HR0.out HC0.out HT.out).mono ?_; rintro e w1 ⟨rfl, hb1⟩; have HB1 := Aside0.mk hb1; clear hb1)
        | (go_at_call 53; with_reducible refine (HAC.out _ (Kd.C_below HR3.out HB1.out)).mono ?_; rintro e w2 ⟨rfl, ⟨nd, rfl⟩⟩))
      have HP := Aside0.mk (pre_start own w w1 nd HB1.out)
      go_loopw [9, 23] (fun _ v23 wr => ∃ i : Nat, i ≤ l0.length ∧ v23 = .int .i64 (i : Int) ∧ Aside0 (∃ ov, Pre own w w1.heap.size (w1.heap.size + 1) (w1.heap.size + 1 + 1 + 1) ov (own.take i) wr)) (fun _ v23 _ => l0.length - (intOf v23).toNat)
      case atStart => exact ⟨0, Nat.zero_le _, rfl, ⟨⟨_, by simpa using HP.out⟩⟩⟩
      case round =>
        clear HP
        obtain ⟨i, hi, rfl, HQ⟩ := hrel
        obtain ⟨ov, hpre⟩ := HQ.out
        clear HQ
        by_cases hlast : i = l0.length
        · subst hlast
          have HP := Aside0.mk hpre; clear hpre
          obtain ⟨b, o, rfl, hbl, hcs⟩ := Gs.ints_of_C (l0 := [x, y, z]) HR3.out (by simp)
          have k0 : wr.cell? ⟨b, o, none⟩ = some (.int .i64 x) := (HP.out.bel.cell (p := ⟨b, o, none⟩) hbl).trans (hcs 0 (by simp))
          have k1 : wr.cell? ⟨b, o + 1, none⟩ = some (.int .i64 y) := (HP.out.bel.cell (p := ⟨b, o + 1, none⟩) hbl).trans (hcs 1 (by simp))
          have k2 : wr.cell? ⟨b, o + 2, none⟩ = some (.int .i64 z) := (HP.out.bel.cell (p := ⟨b, o + 2, none⟩) hbl).trans (hcs 2 (by simp))
          clear hcs
          have htk : own.take l0.length = own := by rw [← HOL.out]; exact List.take_length
          have hP2 := HP.out
          rw [htk] at hP2
          have hrd := ready HOK.out.1 HB1.out hP2 x y z hfw hsm _ rfl
          have RD := Aside0.mk hrd; clear hrd hP2 htk
          obtain ⟨q1, q2, q3⟩ := HP.out.lts
          have H4 : Aside0 (∀ W, KeepBut (wr.alloc (.cells #[.func (.func 55) #[] #[.pointer (some ⟨w1.heap.size + 1, 0, none⟩), .pointer (some ⟨w1.heap.size + 1 + 1 + 1, 0, none⟩), .pointer (some ⟨wr.heap.size, 0, none⟩)]] 57)) W w1.heap.size none →
              W.cell? ⟨wr.heap.size, 0, none⟩ = some (.func (.func 55) #[] #[.pointer (some ⟨w1.heap.size + 1, 0, none⟩), .pointer (some ⟨w1.heap.size + 1 + 1 + 1, 0, none⟩), .pointer (some ⟨wr.heap.size, 0, none⟩)]) ∧ W.cell? ⟨b, o, none⟩ = some (.int .i64 x) ∧ W.cell? ⟨b, o + 1, none⟩ = some (.int .i64 y) ∧ W.cell? ⟨b, o + 2, none⟩ = some (.int .i64 z)) := ⟨by
            intro W hk
            have hbw : b < wr.heap.size := by have := HP.out.bel.size; omega
            have hbb : W.heap[b]? = wr.heap[b]? := (hk.2 b (by simp; omega) (by have := HB1.out.size; omega) (by simp)).trans (Below.heap_alloc _ _ _ hbw)
            have hcc : W.heap[wr.heap.size]? = _ := (hk.2 wr.heap.size (by simp) (by omega) (by simp)).trans (blk_new _ _)
            refine ⟨blk_cell hcc 0, ?_, ?_, ?_⟩ <;> simp only [World.cell?, hbb] <;> assumption⟩
          clear k0 k1 k2
          have harr : ∀ w : World, (Instr.arrayAt 58 (.slice (some ⟨b, o, none⟩) 3 c1)).run Tryd.prog w = .ok (.pointer (some ⟨b, o, none⟩)) w := fun w => run_arrayAt (w := w) 58 3 3 (some ⟨b, o, none⟩) 3 c1 Tryd.underlying58 (Nat.le_refl _)
          go_wp2
          go_region_held3 (fun w' => w'.cell? ⟨wr.heap.size, 0, none⟩ = some (.func (.func 55) #[] #[.pointer (some ⟨w1.heap.size + 1, 0, none⟩), .pointer (some ⟨w1.heap.size + 1 + 1 + 1, 0, none⟩), .pointer (some ⟨wr.heap.size, 0, none⟩)]) ∧ w'.cell? ⟨b, o, none⟩ = some (.int .i64 x) ∧ w'.cell? ⟨b, o + 1, none⟩ = some (.int .i64 y) ∧ w'.cell? ⟨b, o + 2, none⟩ = some (.int .i64 z))
            (first | exact H4.out _ (KeepBut.refl _ _ _) | exact H4.out _ HK5.out | exact H4.out _ (KeepBut.of_below (pw_below_drewN (Below.refl _ _) _) _ _))
            ((go_at_call 55; refine (RD.out _ (by first | exact Below.refl _ _ | exact pw_below_drewN (Below.refl _ _) _)).mono ?_; rintro e w5 ⟨rfl, hk5, hb5⟩; have HK5 := Aside0.mk hk5; clear hk5))
          all_goals
            go_wp2
            go_ret2
            exact ⟨rfl, hb5⟩
        · obtain ⟨wo, ewo⟩ : ∃ wo : World, wo = wr := ⟨_, rfl⟩
          subst ewo
          have hil : i < l0.length := by omega
          obtain ⟨ad, rfl, hcell⟩ := Kd.at_string (Kd.C_below HR0.out hpre.bel) (i : Int) (by omega) (by omega)
          rw [Int.toNat_natCast] at hcell
          have hse : rdOf ByteArray.empty l0 (i : Int) = l0[i] := by simp [rdOf, List.getD_eq_getElem?_getD, List.getElem?_eq_getElem hil]
          rw [hse] at hcell
          have HLF : Aside0 (Go.Proofs.YtmdaggnfgghnfaaDoor.Pc.impl_lettersOf.f k l0[i] = some (own[i]'(by have := HOL.out; omega))) := ⟨HOA.out i hil _⟩
          clear hse
          obtain ⟨cN, fN⟩ := hpre.cN
          have HP := Aside0.mk hpre; clear hpre
          have hi0 : (0 : Int) ≤ (i : Int) := by omega
          have hi1 : (i : Int) < (l0.length : Int) := by omega
          clear hlast hi
          go_wp2
          go_region_law
            (first
              | (go_simp; go_at_call 54; with_reducible refine (Go.Proofs.YtmdaggnfgghnfaaDoor.Pc.impl_lettersOf.calls k l0[i] _ _ HLF.out).mono ?_; rintro e w3 ⟨v0, rfl, hr1, hb1⟩; obtain ⟨A2, k2, rfl⟩ := Kd.R_slice hr1; have hbW : Below wo.heap.size wo w3 := (by first | exact hb1 | exact below_plain hb1); have c1 : w3.cell? ⟨w1.heap.size + 1 + 1 + 1, 0, none⟩ = some ov := (HP.out.below hbW).cN.1; have l1 : w1.heap.size + 1 + 1 + 1 < w3.heap.size := (HP.out.below hbW).lts.2.2)
              | (refine step_srow (w0 := w) (Kd.int .i64) 56 23 3 Tryd.underlying56 info1 w.heap.size wo.heap.size rfl (.tmp 27) (.tmp 30) rfl ov (own.take i) (own[i]'(by have := HOL.out; omega)) _ A2 k2 (fun k => k ≠ w1.heap.size ∧ k ≠ w1.heap.size + 1 ∧ k ≠ w1.heap.size + 1 + 1 + 1) rfl rfl ?h1 ?h2 ?h3 ?h4 ?h5 ?h6 ?h7 ?h8 ?_
                 (case h1 => first | exact Kd.S_alloc (Kd.S_below (Kd.S_mono (Kd.S_bound HP.out.rows) (fun k hk => ⟨hk.1, hk.2.2.1⟩)) hbW) _ | exact Kd.S_drew (Kd.S_alloc (Kd.S_below (Kd.S_mono (Kd.S_bound HP.out.rows) (fun k hk => ⟨hk.1, hk.2.2.1⟩)) hbW) _))
                 (case h2 => first | exact blk_new _ _ | exact blk_drew (blk_new _ _))
                 (case h3 => exact Kd.R_lower (Kd.R_mono (Kd.R_bound (Kd.R_below hr1 (by first | exact (Below.refl _ _).alloc (Nat.le_refl _) _ | exact below_drew ((Below.refl _ _).alloc (Nat.le_refl _) _)))) (fun k hk => hk.2.1)) HP.out.bel.size)
                 (case h4 => exact fun k hk => HP.out.fresh k hk)
                 (case h5 => exact Nat.le_trans hbW.size (by simp))
                 (case h6 => first | exact ((HP.out.below hbW).alloc _).bel | exact ((HP.out.below hbW).alloc _).drew.bel)
                 (case h7 => first | exact ((HP.out.below hbW).alloc _).bel.size | exact ((HP.out.below hbW).alloc _).drew.bel.size)
                 (case h8 => have h1 := HOK.out.1.2.1; have h2 : (own.take i).length ≤ own.length := (by rw [List.length_take]; omega); omega)
                 (intro v1 w2 hr2 hb2 hg2)
                 (obtain ⟨A3, k3, rfl⟩ := Kd.S_slice hr2)
                 (have HLA : Aside0 ((own.take i ++ [own[i]'(by have := HOL.out; omega)]).length = i + 1) := ⟨by have := HOL.out; simp; omega⟩)
                 (rw [HLA.out] at hr2 ⊢)
                 (have hbA : Below wo.heap.size wo (w3.alloc (.cells #[.slice A2 (own[i]'(by have := HOL.out; omega)).length k2] 23)) := hbW.alloc hbW.size _)
                 (have hg3 : (w3.alloc (.cells #[.slice A2 (own[i]'(by have := HOL.out; omega)).length k2] 23)).grownBy w2 ov.ownBlock := (by first | exact hg2 | exact ⟨hg2.os, hg2.tape, hg2.output, hg2.size, hg2.block⟩))
                 (have b2 : w2.heap[w1.heap.size + 1 + 1 + 1]? = some (.cells #[ov] 56 (0, 0)) := (hg3.block _ (HP.out.below hbA).lts.2.2 (fun e => ((Kd.S_R HP.out.rows).1 _ e.symm).2.2 rfl)).trans (HP.out.below hbA).bN)
                 (have c2 : w2.cell? ⟨w1.heap.size + 1 + 1 + 1, 0, none⟩ = some ov := by simp [World.cell?, b2])
                 (have f2 : w2.frozen? ⟨w1.heap.size + 1 + 1 + 1, 0, none⟩ = false := by simp [World.frozen?, b2])))
          all_goals
            have hfin := pre_fin (by have := HOL.out; omega) (by omega) (by have := HB1.out.size; omega) HP.out hbA hr2 hg3
            have HF := Aside0.mk hfin; clear hfin
            go_wp2
            go_roundw
            case rel => exact ⟨i + 1, by omega, by go_num, ⟨⟨_, HF.out⟩⟩⟩
            case measure => simp [intOf]; omega
end Go.Proofs.YtmdaggnfgghnfaaDoor.Cbl
