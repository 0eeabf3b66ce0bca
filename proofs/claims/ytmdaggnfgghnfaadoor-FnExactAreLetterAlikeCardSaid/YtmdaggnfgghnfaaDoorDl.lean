/- impl.delayOf: the rests after more and more words, till there are none or they come again. -/
import Derived.Test.YtmdaggnfgghnfaaDoorGj
import Derived.Test.YtmdaggnfgghnfaaDoorSetB
import Derived.Test.YtmdaggnfgghnfaaDoorPfM0
import Derived.Laws.EntriesVeiled
namespace Go.Proofs.YtmdaggnfgghnfaaDoor.Dl
open Go Go.RowKit Go.Maps Go.Proofs.YtmdaggnfgghnfaaDoorW.PrintWords Go.Proofs.YtmdaggnfgghnfaaDoorW.PrintLast Go.Proofs.YtmdaggnfgghnfaaDoorW.PrintMore Go.Proofs.YtmdaggnfgghnfaaDoor.SetB Go.Proofs.YtmdaggnfgghnfaaDoor.Gj
set_option linter.unusedVariables false
set_option linter.unusedSimpArgs false

abbrev comma : ByteArray := ⟨#[44]⟩
/-- The loop: so many rounds, the number of words, the rests, what was met. -/
def loop (k : Nat) (l : List ByteArray) : Nat → Int → List ByteArray → List (List UInt8) → Option (Int × Bool)
  | 0, _, _, _ => none
  | n + 1, d, rests, met => if rests.length = 0 then some (d, true) else (strings_Join.f rests comma).bind fun key =>
      if key.data.toList ∈ met then some (0, false) else if met.length < 4000000000000000000 then (Go.Proofs.YtmdaggnfgghnfaaDoor.Pf.impl_nextRests.f k l rests).bind fun r => loop k l n (wrap64 (d + 1)) r (key.data.toList :: met) else none
def impl_delayOf.f (k : Nat) (l : List ByteArray) : Option (Int × Bool) := (Go.Proofs.YtmdaggnfgghnfaaDoor.Pf.impl_firstRests.f k l).bind fun r => loop k l k 0 r []
theorem loop_mono (k : Nat) (l : List ByteArray) : ∀ n d r m, LeO (loop k l n d r m) (loop (k + 1) l (n + 1) d r m)
  | 0, d, r, m => LeO.none _
  | n + 1, d, r, m => by
    unfold loop
    exact LeO.ite (LeO.refl _) (LeO.bind (LeO.refl _) (fun key => LeO.ite (LeO.refl _) (LeO.ite (LeO.bind (Go.Proofs.YtmdaggnfgghnfaaDoor.Pf.impl_nextRests.mono _ _ _) (fun r' => loop_mono k l n _ r' _)) (LeO.refl _))))
theorem impl_delayOf.mono : ∀ l k, LeO (impl_delayOf.f k l) (impl_delayOf.f (k + 1) l) := by
  intro l k
  unfold impl_delayOf.f
  exact LeO.bind (Go.Proofs.YtmdaggnfgghnfaaDoor.Pf.impl_firstRests.mono _ _) (fun r => loop_mono k l k 0 r [])

/-- Between the rounds. -/
structure Mid (w : World) (gm : Nat) (v : Value) (rests : List ByteArray) (met : List (List UInt8)) (W : World) : Prop where
  memo : Memo met gm met.length W
  row : Kd.R Kd.string 9 W w.heap.size (fun k => k ≠ gm) v rests
  bel : Below w.heap.size w W

theorem key_size {l : List ByteArray} {key : ByteArray} (h : strings_Join.f l comma = some key) : key.size ≤ maxLen := by
  unfold strings_Join.f at h
  split at h
  case isFalse => cases h
  rename_i hd
  injection h with h
  subst h
  have h1 := hd.2
  have h2 : (⟨(joined l comma).toArray⟩ : ByteArray).size = (joined l comma).length := by simp [ByteArray.size]
  rw [h2]
  unfold maxLen
  omega
theorem mid_start {w w1 : World} {v : Value} {r : List ByteArray} (hr : Kd.R Kd.string 9 w1 (w.alloc (.map #[] 0)).heap.size (fun _ => True) v r) (hb : Below (w.alloc (.map #[] 0)).heap.size (w.alloc (.map #[] 0)) w1) : Mid w w.heap.size v r [] w1 := by
  have h0 : Below w.heap.size w (w.alloc (.map #[] 0)) := (Below.refl _ w).alloc (Nat.le_refl _) _
  have hs : (w.alloc (.map #[] 0)).heap.size = w.heap.size + 1 := by simp
  refine ⟨(Memo.start w).below hb, ?_, h0.trans (hb.mono (by omega))⟩
  exact Kd.R_lower (Kd.R_mono (Kd.R_bound hr) (fun k hk => by have := hk.2.1; omega)) (by omega)
theorem bel_next {w W W1 W2 : World} {gm : Nat} {v : Value} {rests : List ByteArray} {met : List (List UInt8)} (hM : Mid w gm v rests met W) (hgm : w.heap.size ≤ gm) (hb1 : Below W.heap.size W W1) (hg : W1.grownBy W2 (some gm)) : Below w.heap.size w W2 := by
  have h1 := below_step hM.bel hb1
  exact h1.grown hg h1.size (fun k hk => (Option.some.inj hk) ▸ hgm)
theorem row_next {w W W1 W2 : World} {gm n c : Nat} {A : Option Addr} {rests : List ByteArray} {met : List (List UInt8)} (hM : Mid w gm (.slice A n c) rests met W) (hb1 : Below W.heap.size W W1) (hg : W1.grownBy W2 (some gm)) : Kd.C Kd.string W2 A rests.length rests :=
  (Kd.R_reads' (Kd.R_grown (Kd.R_below hM.row hb1) hg (fun k hk e => hk (Option.some.inj e)))).2.2
theorem mid_next {w W2 W3 : World} {gm : Nat} {v3 : Value} {r3 : List ByteArray} {met2 : List (List UInt8)} (b2 : Below w.heap.size w W2) (hm2 : Memo met2 gm met2.length W2) (hr : Kd.R Kd.string 9 W3 W2.heap.size (fun _ => True) v3 r3) (hb : Below W2.heap.size W2 W3) : Mid w gm v3 r3 met2 W3 := by
  have hlt := hm2.lt
  refine ⟨hm2.below hb, ?_, below_step b2 hb⟩
  exact Kd.R_lower (Kd.R_mono (Kd.R_bound hr) (fun k hk => by have := hk.2.1; omega)) b2.size

set_option maxHeartbeats 1000000 in
set_option maxRecDepth 100000 in
theorem impl_delayOf.calls (k : Nat) (A0 : Option Addr) (c0 : Nat) (l0 : List ByteArray) (r1 : Int) (r2 : Bool) (w : World) (hr0 : Kd.C Kd.string w A0 l0.length l0) (hc0 : l0.length ≤ c0) (h : impl_delayOf.f k l0 = some (r1, r2)) :
    Calls Tryd.prog 78 #[.slice A0 l0.length c0] w fun e w' => e = .returned (.tuple #[.int .i64 r1, .bool r2]) ∧ Below w.heap.size w w' := by
  obtain ⟨r0, hf, h⟩ := Option.bind_eq_some_iff.mp h
  have HR0 := Aside0.mk hr0; clear hr0
  have HC0 := Aside0.mk hc0; clear hc0
  have HF := Aside0.mk hf; clear hf
  have HL := Aside0.mk h; clear h
  have hmm := @run_makeMap Tryd.prog
  go_enter Tryd.func78, Tryd.ntmps78
  go_wp2_with (first
    | (go_at_call 116; with_reducible refine (Go.Proofs.YtmdaggnfgghnfaaDoor.Pf.impl_firstRests.calls k A0 c0 l0 r0 _ (Kd.C_below HR0.out ((Below.refl _ w).alloc (Nat.le_refl _) _)) HC0.out HF.out).mono ?_; rintro e w1 ⟨v0, rfl, hrr, hb1⟩; have HRR := Aside0.mk hrr; clear hrr; have HB1 := Aside0.mk hb1; clear hb1))
  have hms := mid_start HRR.out HB1.out
  have HMS := Aside0.mk hms; clear hms
  go_loopg [5, 6, 7] k (fun kq v5 v6 _ wr => ∃ (rests : List ByteArray) (d : Int) (met : List (List UInt8)), v6 = .int .i64 d ∧ Aside0 (loop k l0 kq d rests met = some (r1, r2)) ∧ Aside0 (Mid w w.heap.size v5 rests met wr))
  case atStart => exact ⟨r0, 0, [], rfl, HL, HMS⟩
  case round =>
    clear HL HMS
    obtain ⟨rests, d, met, rfl, HL, HM⟩ := hrel
    cases gk with
    | zero => exact absurd HL.out (by simp [loop])
    | succ k1 =>
      have H := HL.out
      clear HL
      simp only [loop] at H
      obtain ⟨A5, c5, hv5, hc5, hC5⟩ := Kd.R_reads HM.out.row
      subst hv5
      have HC5 := Aside0.mk hC5; clear hC5
      have HLC := Aside0.mk hc5; clear hc5
      by_cases h0 : rests.length = 0
      · rw [if_pos h0] at H
        injection H with H
        injection H with h1 h2
        subst h1
        subst h2
        have hb0 : ((rests.length : Int) == 0) = true := by simp [h0]
        have HH := Aside0.mk h0; clear h0
        go_wp2
        go_ret2
        exact ⟨rfl, HM.out.bel⟩
      · rw [if_neg h0] at H
        have hb0 : ((rests.length : Int) == 0) = false := beq_false_of_ne (fun h => h0 (by omega))
        clear h0
        obtain ⟨key, hk, H⟩ := Option.bind_eq_some_iff.mp H
        have HK := Aside0.mk hk; clear hk
        have HKS := Aside0.mk (keyS (key_size HK.out))
        obtain ⟨D, ho, hmet⟩ := HM.out.memo
        have HO0 := Aside0.mk ho; clear ho
        have HMT := Aside0.mk (hmet key.data.toList)
        have HME := Aside0.mk hmet; clear hmet
        by_cases hm : key.data.toList ∈ met
        · rw [if_pos hm] at H
          injection H with H
          injection H with h1 h2
          subst h1
          subst h2
          have HIN := Aside0.mk hm; clear hm
          go_wp2_with (first
            | (go_at_call 72; with_reducible refine (strings_Join.calls A5 c5 rests comma key _ HC5.out HLC.out HK.out).mono ?_; rintro e w2 ⟨rfl, hb2⟩; have HO := Aside0.mk (own_below HO0.out hb2); have HB2 := Aside0.mk hb2; clear hb2)
            | (at_lookup; refine wpList_lookup_own_bool _ rfl _ _ 100 rfl 9 4 law Tryd.underlying100 Tryd.underlying4 (zeroB _) w.heap.size met.length D rfl HO.out _ (.string key.data.toList) rfl HKS.out ?_; intro c hat; (have ec : c = true := by have h1 := HMT.out; rw [hat] at h1; simpa [HIN.out] using h1); subst ec; clear hat))
          go_ret2
          exact ⟨rfl, below_step HM.out.bel HB2.out⟩
        · rw [if_neg hm] at H
          by_cases hlm : met.length < 4000000000000000000
          · rw [if_pos hlm] at H
            obtain ⟨r', hr', H⟩ := Option.bind_eq_some_iff.mp H
            have HR' := Aside0.mk hr'; clear hr'
            have H' := Aside0.mk H; clear H
            have HIN := Aside0.mk hm; clear hm
            have HLM : Aside0 (met.length < maxLen) := ⟨by unfold maxLen; omega⟩
            clear hlm
            go_wp2_with (first
              | (go_at_call 72; with_reducible refine (strings_Join.calls A5 c5 rests comma key _ HC5.out HLC.out HK.out).mono ?_; rintro e w2 ⟨rfl, hb2⟩; have HO := Aside0.mk (own_below HO0.out hb2); have HB2 := Aside0.mk hb2; clear hb2)
              | (at_lookup; refine wpList_lookup_own_bool _ rfl _ _ 100 rfl 9 4 law Tryd.underlying100 Tryd.underlying4 (zeroB _) w.heap.size met.length D rfl HO.out _ (.string key.data.toList) rfl HKS.out ?_; intro c hat; (have ec : c = false := by have h1 := HMT.out; rw [hat] at h1; simpa [HIN.out] using h1); subst ec; clear hat)
              | (at_mapUpdate; refine wpList_mapUpdate_own _ rfl _ _ _ 100 rfl 9 4 law Tryd.underlying100 _ w.heap.size met.length D rfl HO.out HLM.out _ _ (.string key.data.toList) rfl rfl HKS.out (.lit (.bool true)) [] (plainElem_bool Tryd.underlying4 true) ?_; intro w3 hown3 hgrow3; have HM3 := Aside0.mk (show Memo (key.data.toList :: met) w.heap.size (key.data.toList :: met).length w3 from ⟨_, hown3, met_put HO.out HME.out (key_size HK.out)⟩); have HB3 := Aside0.mk (bel_next HM.out (Nat.le_refl _) HB2.out hgrow3); have HC3 := Aside0.mk (row_next HM.out HB2.out hgrow3); clear hown3 hgrow3)
              | (go_at_call 117; with_reducible refine (Go.Proofs.YtmdaggnfgghnfaaDoor.Pf.impl_nextRests.calls k A0 c0 l0 A5 c5 rests r' _ (Kd.C_below HR0.out HB3.out) HC0.out HC3.out HLC.out HR'.out).mono ?_; rintro e w4 ⟨v4, rfl, hr4, hb4⟩; have HM4 := Aside0.mk (mid_next HB3.out HM3.out hr4 hb4); clear hr4 hb4))
            go_roundg k1
            case measure => omega
            case rel => exact ⟨r', wrap64 (d + 1), _, rfl, H', HM4⟩
          · rw [if_neg hlm] at H
            exact absurd H (by simp)
end Go.Proofs.YtmdaggnfgghnfaaDoor.Dl
