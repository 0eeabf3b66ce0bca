/- FnExactCountByLetters in plain Lean: both sides count by lesser counts. -/
import Derived.Test.YtmdaggnfgghnfaaDoorLets
import Derived.Test.YtmdaggnfgghnfaaDoorCbl
import Derived.Test.YtmdaggnfgghnfaaDoorPc3
import Derived.Test.YtmdaggnfgghnfaaDoorPc1
import Derived.Test.YtmdaggnfgghnfaaDoorPc5
namespace Go.Proofs.YtmdaggnfgghnfaaDoor.PureCbl
open Go.RowKit Go.Proofs.YtmdaggnfgghnfaaDoorW.PrintWords Go.Proofs.YtmdaggnfgghnfaaDoorW.PrintLast Go.Proofs.YtmdaggnfgghnfaaDoorW.PrintMore Go.Proofs.YtmdaggnfgghnfaaDoor.Wd Go.Proofs.YtmdaggnfgghnfaaDoor.Wset Go.Proofs.YtmdaggnfgghnfaaDoor.Lets Go.Proofs.YtmdaggnfgghnfaaDoor.Cnt Go.Proofs.YtmdaggnfgghnfaaDoor.Memo Go.Proofs.YtmdaggnfgghnfaaDoor.Cb Go.Proofs.YtmdaggnfgghnfaaDoor.Cbl
set_option linter.unusedVariables false
set_option linter.unusedSimpArgs false

/-! ### counts of letters -/
def Counts (x y z : Int) : Prop := Few x y z ∧ x + y + z ≤ 12
instance (x y z : Int) : Decidable (Counts x y z) := by unfold Counts; exact inferInstance
theorem three {l : List Int} (h : l.length = 3) : ∃ x y z, l = [x, y, z] := by
  match l, h with
  | [x, y, z], _ => exact ⟨x, y, z, rfl⟩
theorem l1All3 (x y z : Int) (k : Nat) : Go.Proofs.YtmdaggnfgghnfaaDoor.Pc.spec_l1All.f (k + 4) [x, y, z] 0 12 = some (decide (Few x y z)) := by
  have w1 : wrap64 (0 + 1) = 1 := by unfold wrap64; omega
  have w2 : wrap64 (1 + 1) = 2 := by unfold wrap64; omega
  have w3 : wrap64 (2 + 1) = 3 := by unfold wrap64; omega
  unfold Go.Proofs.YtmdaggnfgghnfaaDoor.Pc.spec_l1All.f
  simp only [Go.Proofs.YtmdaggnfgghnfaaDoor.Pc.spec_l1All.l0, w1, w2, w3, l1In_eq, Option.bind_some, rd, List.length_cons, List.length_nil]
  by_cases hx : 0 ≤ x ∧ x ≤ 12
  · by_cases hy : 0 ≤ y ∧ y ≤ 12
    · by_cases hz : 0 ≤ z ∧ z ≤ 12
      · simp [Few, hx, hy, hz]
      · simp [Few, hx, hy, hz]
    · simp [Few, hx, hy]
  · simp [Few, hx]
theorem leCounts_ev (l : List Int) : ∃ b, Ev (fun k => Go.Proofs.YtmdaggnfgghnfaaDoor.Pc.spec_leCounts.f k l) b ∧ (b = true ↔ ∃ x y z, l = [x, y, z] ∧ Counts x y z) := by
  by_cases h : l.length = 3
  · obtain ⟨x, y, z, rfl⟩ := three h
    refine ⟨decide (Counts x y z), ⟨4, fun k hk => ?_⟩, ?_⟩
    · obtain ⟨k, rfl⟩ : ∃ q, k = q + 4 := ⟨k - 4, by omega⟩
      show Go.Proofs.YtmdaggnfgghnfaaDoor.Pc.spec_leCounts.f (k + 4) [x, y, z] = _
      unfold Go.Proofs.YtmdaggnfgghnfaaDoor.Pc.spec_leCounts.f
      rw [if_pos (by simp), l1All3, Option.bind_some]
      by_cases hf : Few x y z
      · have hf' := hf
        unfold Few at hf'
        rw [if_pos (by simp [hf]), if_pos (by simp), if_pos (by simp), if_pos (by simp)]
        have e : wrap64 (wrap64 (rd [x, y, z] 0 + rd [x, y, z] 1) + rd [x, y, z] 2) = x + y + z := by
          rw [show rd [x, y, z] 0 = x from rfl, show rd [x, y, z] 1 = y from rfl, show rd [x, y, z] 2 = z from rfl]
          unfold wrap64
          omega
        rw [e]
        congr 1
        rw [decide_eq_decide]
        simp [Counts, hf]
      · rw [if_neg (by simp [hf])]
        congr 1
        exact (decide_eq_false fun hc => hf hc.1).symm
    · simp only [decide_eq_true_eq, List.cons.injEq, and_true]
      exact ⟨fun hc => ⟨x, y, z, ⟨rfl, rfl, rfl⟩, hc⟩, fun ⟨_, _, _, ⟨h1, h2, h3⟩, hc⟩ => by rw [h1, h2, h3]; exact hc⟩
  · refine ⟨false, ev_of fun k => ?_, ?_⟩
    · unfold Go.Proofs.YtmdaggnfgghnfaaDoor.Pc.spec_leCounts.f
      rw [if_neg (by omega)]
    · simp only [Bool.false_eq_true, false_iff]
      rintro ⟨x, y, z, rfl, _⟩
      exact h rfl
theorem sumW3 (x y z : Int) (h : Few x y z) (k : Nat) : Go.Proofs.YtmdaggnfgghnfaaDoor.Pc.impl_sumWeights.f (k + 4) [x, y, z] = some (x + y + z) := by
  have w1 : wrap64 (0 + 1) = 1 := by unfold wrap64; omega
  have w2 : wrap64 (1 + 1) = 2 := by unfold wrap64; omega
  have w3 : wrap64 (2 + 1) = 3 := by unfold wrap64; omega
  unfold Few at h
  have a1 : wrap64 x = x := by unfold wrap64; omega
  have a2 : wrap64 (x + y) = x + y := by unfold wrap64; omega
  have a3 : wrap64 (x + y + z) = x + y + z := by unfold wrap64; omega
  unfold Go.Proofs.YtmdaggnfgghnfaaDoor.Pc.impl_sumWeights.f
  simp only [Go.Proofs.YtmdaggnfgghnfaaDoor.Pc.impl_sumWeights.l0, w1, w2, w3, List.length_cons, List.length_nil]
  simp [rd, a1, a2, a3]
theorem areCounts_ev (l : List Int) : ∃ b, Ev (fun k => Go.Proofs.YtmdaggnfgghnfaaDoor.Pc.impl_areCounts.f k l) b ∧ (b = true ↔ ∃ x y z, l = [x, y, z] ∧ Counts x y z) := by
  by_cases h : l.length = 3
  · obtain ⟨x, y, z, rfl⟩ := three h
    refine ⟨decide (Counts x y z), ⟨4, fun k hk => ?_⟩, ?_⟩
    · obtain ⟨k, rfl⟩ : ∃ q, k = q + 4 := ⟨k - 4, by omega⟩
      show Go.Proofs.YtmdaggnfgghnfaaDoor.Pc.impl_areCounts.f (k + 4) [x, y, z] = _
      unfold Go.Proofs.YtmdaggnfgghnfaaDoor.Pc.impl_areCounts.f Gs.slices_Min.f Gs.slices_Max.f
      rw [if_pos (by simp)]
      simp only [List.length_cons, List.length_nil, Nat.zero_add, Nat.reduceAdd, Nat.reduceLT, and_self, if_true, Option.bind_some]
      have emin : Lib.minOf [x, y, z] = min (min (min x x) y) z := rfl
      have emax : Lib.maxOf [x, y, z] = max (max (max x x) y) z := rfl
      rw [emin, emax]
      by_cases hf : Few x y z
      · have hf' := hf
        unfold Few at hf'
        rw [if_pos (by omega), if_pos (by omega), sumW3 x y z hf, Option.bind_some]
        congr 1
        rw [decide_eq_decide]
        simp [Counts, hf]
      · have hc : decide (Counts x y z) = false := decide_eq_false fun hc => hf hc.1
        rw [hc]
        by_cases h1 : min (min (min x x) y) z ≥ 0
        · rw [if_pos h1, if_neg (by intro h2; apply hf; unfold Few; omega)]
        · rw [if_neg h1]
    · simp only [decide_eq_true_eq, List.cons.injEq, and_true]
      exact ⟨fun hc => ⟨x, y, z, ⟨rfl, rfl, rfl⟩, hc⟩, fun ⟨_, _, _, ⟨h1, h2, h3⟩, hc⟩ => by rw [h1, h2, h3]; exact hc⟩
  · refine ⟨false, ev_of fun k => ?_, ?_⟩
    · unfold Go.Proofs.YtmdaggnfgghnfaaDoor.Pc.impl_areCounts.f
      rw [if_neg (by omega)]
    · simp only [Bool.false_eq_true, false_iff]
      rintro ⟨x, y, z, rfl, _⟩
      exact h rfl

/-! ### the program's side -/
theorem rows_ev : ∀ l : List ByteArray, Ev (fun k => rows k l) (l.map lets)
  | [] => ev_some _
  | s :: l => Ev.bind (lettersOf_ev s) (Ev.bind (rows_ev l) (ev_some _))
theorem ok_set {l : List ByteArray} (h : Set l) : Ok (l.map lets) := by
  refine ⟨?_, by simpa using h.1, ?_⟩
  · intro c hc
    obtain ⟨s, hs, rfl⟩ := List.mem_map.1 hc
    obtain ⟨h1, h2, h3⟩ := short_of h hs
    have := lets_sum s h3
    exact ⟨lets_nonneg s, by omega⟩
  · intro c hc
    obtain ⟨s, hs, rfl⟩ := List.mem_map.1 hc
    obtain ⟨h1, h2, h3⟩ := short_of h hs
    have := lets_sum s h3
    have h4 := lets_nonneg s
    exact ⟨rfl, by omega, by omega, by omega⟩
/-- What both sides tell. -/
noncomputable def dueC (l : List ByteArray) (c : List Int) : Int × Bool := by
  classical exact if Set l ∧ ∃ x y z, c = [x, y, z] ∧ Counts x y z then (cnt (l.map lets) (rd c 0) (rd c 1) (rd c 2), true) else (0, false)
open Classical in
theorem impl_ev (l : List ByteArray) (hl : Fit l) (c : List Int) : Ev (fun k => impl_CountByLetters.f k l c) (dueC l c) := by
  unfold impl_CountByLetters.f
  refine Ev.bind (isSet_ev l hl) ?_
  by_cases hs : Set l
  · simp only [hs, decide_true, if_true]
    obtain ⟨b, hb, hb2⟩ := areCounts_ev c
    refine Ev.bind hb ?_
    cases b with
    | true =>
      obtain ⟨x, y, z, rfl, hc⟩ := hb2.1 rfl
      simp only [if_true]
      refine Ev.bind (rows_ev l) ?_
      have hh : Ok (l.map lets) ∧ [x, y, z].length = 3 ∧ Few (rd [x, y, z] 0) (rd [x, y, z] 1) (rd [x, y, z] 2) ∧ rd [x, y, z] 0 + rd [x, y, z] 1 + rd [x, y, z] 2 ≤ 12 := ⟨ok_set hs, rfl, hc.1, hc.2⟩
      simp only [if_pos hh]
      have : dueC l [x, y, z] = (cnt (l.map lets) (rd [x, y, z] 0) (rd [x, y, z] 1) (rd [x, y, z] 2), true) := by
        unfold dueC
        rw [if_pos ⟨hs, x, y, z, rfl, hc⟩]
      rw [this]
      exact ev_some _
    | false =>
      have : dueC l c = (0, false) := by
        unfold dueC
        rw [if_neg (fun h => by have := hb2.2 h.2; cases this)]
      rw [this]
      exact ev_some _
  · have : dueC l c = (0, false) := by
      unfold dueC
      rw [if_neg (fun h => hs h.1)]
    rw [this]
    simp only [hs, decide_false, Bool.false_eq_true, if_false]
    exact ev_some _
end Go.Proofs.YtmdaggnfgghnfaaDoor.PureCbl
