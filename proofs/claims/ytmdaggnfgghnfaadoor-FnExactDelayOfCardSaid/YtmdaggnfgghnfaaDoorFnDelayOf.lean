/- FnExactDelayOf in plain Lean: whatever the words, the law tells true. -/
import Derived.Test.YtmdaggnfgghnfaaDoorDlR
import Derived.Test.YtmdaggnfgghnfaaDoorPgM0
import Derived.Test.YtmdaggnfgghnfaaDoorPfM0
namespace Go.Proofs.YtmdaggnfgghnfaaDoor.FnDelayOf
open Go.RowKit Go.Proofs.YtmdaggnfgghnfaaDoorW.PrintWords Go.Proofs.YtmdaggnfgghnfaaDoorW.PrintLast Go.Proofs.YtmdaggnfgghnfaaDoorW.PrintMore Go.Proofs.YtmdaggnfgghnfaaDoor.Wd Go.Proofs.YtmdaggnfgghnfaaDoor.Wset Go.Proofs.YtmdaggnfgghnfaaDoor.DlR
set_option linter.unusedVariables false
open Classical in
theorem spec_ev (l : List ByteArray) (hf : Fit l) : Ev (fun k => Go.Proofs.YtmdaggnfgghnfaaDoor.Pf.spec_DelayOf.f k l) (if Set l then scan l 98 0 else (0, false)) := by
  unfold Go.Proofs.YtmdaggnfgghnfaaDoor.Pf.spec_DelayOf.f
  refine Ev.bind (wdSet_ev l hf) ?_
  by_cases h : Set l
  · simp only [h, decide_true, if_true]
    exact Ev.bind (dlOf_ev (set_short h)) (ev_some _)
  · simp only [h, decide_false, Bool.false_eq_true, if_false]
    exact ev_some _
open Classical in
theorem impl_ev (l : List ByteArray) (hf : Fit l) : Ev (fun k => Go.Proofs.YtmdaggnfgghnfaaDoor.Pg.impl_DelayOf.f k l) (if Set l then scan l 98 0 else (0, false)) := by
  unfold Go.Proofs.YtmdaggnfgghnfaaDoor.Pg.impl_DelayOf.f
  refine Ev.bind (isSet_ev l hf) ?_
  by_cases h : Set l
  · simp only [h, decide_true, if_true]
    exact Ev.bind (delayOf_ev (set_short h) (set_plain h)) (ev_some _)
  · simp only [h, decide_false, Bool.false_eq_true, if_false]
    exact ev_some _
theorem pure (l0 : List ByteArray) (b0 : l0.length * 16 ≤ 140737488351232) (s0 : ∀ s ∈ l0, s.size ≤ 9223372036854775807) : ∃ k, Go.Proofs.YtmdaggnfgghnfaaDoor.Pg.laws_FnExactDelayOf.f k l0 = some true := by
  refine Ev.rounds ?_
  unfold Go.Proofs.YtmdaggnfgghnfaaDoor.Pg.laws_FnExactDelayOf.f
  obtain ⟨r, hr, h⟩ := szStringS_ev l0 (by omega) s0 1048576 (by omega) (by omega)
  refine Ev.bind hr ?_
  rcases h with hn | ⟨h0, _, hf⟩
  · simp only [if_pos hn]
    exact ev_some _
  · simp only [if_neg (show ¬ r < 0 by omega)]
    refine Ev.bind (toStringS_ev l0 hf.1) ?_
    refine Ev.bind (spec_ev l0 hf) ?_
    refine Ev.bind (toStringS_ev l0 hf.1) ?_
    refine Ev.bind (impl_ev l0 hf) ?_
    simp only [if_true, bne_self_eq_false]
    refine Ev.step (f := fun k => (Go.Proofs.YtmdaggnfgghnfaaDoor.Pc.laws_toStringS.f k l0).bind fun t118 => (Go.Proofs.YtmdaggnfgghnfaaDoor.Pc.laws_eqStringS.f k l0 t118).bind fun t121 => (if t121 = true then (some true) else (some false))) (fun k => ?_) ?_
    · simp only [Go.Proofs.YtmdaggnfgghnfaaDoor.Pg.laws_FnExactDelayOf.j0]
      rw [if_neg (by decide)]
    · refine Ev.bind (toStringS_ev l0 hf.1) ?_
      refine Ev.bind (eqStringS_ev l0 hf.1) ?_
      simp only [if_true]
      exact ev_some _
end Go.Proofs.YtmdaggnfgghnfaaDoor.FnDelayOf
