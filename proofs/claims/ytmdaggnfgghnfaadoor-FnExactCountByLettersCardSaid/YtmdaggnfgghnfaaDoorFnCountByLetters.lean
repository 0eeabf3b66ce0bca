/- FnExactCountByLetters in plain Lean: whatever the words and the counts, the law tells true. -/
import Derived.Test.YtmdaggnfgghnfaaDoorTbl
import Derived.Test.YtmdaggnfgghnfaaDoorWi
import Derived.Test.YtmdaggnfgghnfaaDoorPd1
namespace Go.Proofs.YtmdaggnfgghnfaaDoor.FnCountByLetters
open Go.RowKit Go.Proofs.YtmdaggnfgghnfaaDoorW.PrintWords Go.Proofs.YtmdaggnfgghnfaaDoorW.PrintLast Go.Proofs.YtmdaggnfgghnfaaDoorW.PrintMore Go.Proofs.YtmdaggnfgghnfaaDoor.Wd Go.Proofs.YtmdaggnfgghnfaaDoor.Wset Go.Proofs.YtmdaggnfgghnfaaDoor.Wi Go.Proofs.YtmdaggnfgghnfaaDoor.PureCbl Go.Proofs.YtmdaggnfgghnfaaDoor.Tbl
set_option linter.unusedVariables false

theorem pure (l0 : List ByteArray) (l1 : List Int) (b0 : l0.length * 16 ≤ 140737488351232) (s0 : ∀ s ∈ l0, s.size ≤ 9223372036854775807) : ∃ k, Go.Proofs.YtmdaggnfgghnfaaDoor.Pd.laws_FnExactCountByLetters.f k l0 l1 = some true := by
  refine Ev.rounds ?_
  unfold Go.Proofs.YtmdaggnfgghnfaaDoor.Pd.laws_FnExactCountByLetters.f
  by_cases hl : (l1.length : Int) > 1048576
  · simp only [if_pos hl]
    exact ev_some _
  · simp only [if_neg hl]
    have hl1 : l1.length ≤ 1048576 := by omega
    obtain ⟨r, hr, h⟩ := szStringS_ev l0 (by omega) s0 1048576 (by omega) (by omega)
    refine Ev.bind hr ?_
    rcases h with hn | ⟨h0, _, hf⟩
    · simp only [if_pos hn]
      exact ev_some _
    · simp only [if_neg (show ¬ r < 0 by omega)]
      refine Ev.bind (toStringS_ev l0 hf.1) ?_
      refine Ev.bind (toIntS_ev l1 hl1) ?_
      refine Ev.bind (spec_ev l0 hf l1) ?_
      refine Ev.bind (toStringS_ev l0 hf.1) ?_
      refine Ev.bind (toIntS_ev l1 hl1) ?_
      refine Ev.bind (impl_ev l0 hf l1) ?_
      simp only [if_true, bne_self_eq_false]
      refine Ev.step (f := fun k => (Go.Proofs.YtmdaggnfgghnfaaDoor.Pc.laws_toStringS.f k l0).bind fun t118 => (Go.Proofs.YtmdaggnfgghnfaaDoor.Pc.laws_eqStringS.f k l0 t118).bind fun t121 => (if t121 = true then ((Go.Proofs.YtmdaggnfgghnfaaDoor.Pc.laws_toIntS.f k l1).bind fun t122 => ((Go.Proofs.YtmdaggnfgghnfaaDoor.Pc.laws_eqIntS.f k l1 t122).bind fun t125 => (if t125 = true then (some true) else (some false)))) else (some false))) (fun k => ?_) ?_
      · simp only [Go.Proofs.YtmdaggnfgghnfaaDoor.Pd.laws_FnExactCountByLetters.j0]
        rw [if_neg (by decide)]
      · refine Ev.bind (toStringS_ev l0 hf.1) ?_
        refine Ev.bind (eqStringS_ev l0 hf.1) ?_
        simp only [if_true]
        refine Ev.bind (toIntS_ev l1 hl1) ?_
        refine Ev.bind (eqIntS_ev l1 hl1) ?_
        simp only [if_true]
        exact ev_some _
end Go.Proofs.YtmdaggnfgghnfaaDoor.FnCountByLetters
