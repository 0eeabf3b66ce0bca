/- FnExactFirstBest in plain Lean: both sides tell the same first best lengths, and there are some. -/
import Derived.Test.YtmbkdapofcgccaaPz2
import Derived.Test.YtmbkdapofcgccaaExist
namespace Go.Proofs.Ytmbkdapofcgccaa.Pure
open Go.RowKit Go.Proofs.Ytmbkdapofcgccaa.Pz Go.Proofs.YtmbkdapofcgccaaW.PrintWords Go.Proofs.YtmbkdapofcgccaaW.PrintLast Go.Proofs.Ytmbkdapofcgccaa.Cm Go.Proofs.Ytmbkdapofcgccaa.Cost Go.Proofs.Ytmbkdapofcgccaa.Same Go.Proofs.Ytmbkdapofcgccaa.Exist

/-- The numbers from 1 on. -/
def ups (n : Nat) : List Int := (List.range n).map fun (q : Nat) => (q : Int) + 1
theorem ups_length (n : Nat) : (ups n).length = n := by simp [ups]
theorem ups_get (n q : Nat) (h : q < n) : (ups n)[q]? = some ((q : Int) + 1) := by simp [ups, h]

theorem mark_loop (n : Nat) (hn : n ≤ 1048576) : ∀ (j i k : Nat) (x : List Int), i + j = n → x.length = n → (∀ q, q < i → x[q]? = some ((q : Int) + 1)) → j < k → laws_markIntS.l0 k x ((i : Int) + 1) i = some ((n : Int) + 1, ups n) := by
  intro j
  induction j with
  | zero =>
    intro i k x hi hx hq hk
    obtain ⟨k, rfl⟩ : ∃ q, k = q + 1 := ⟨k - 1, by omega⟩
    simp only [laws_markIntS.l0]
    rw [if_neg (by omega)]
    have e : x = ups n := by
      apply List.ext_getElem?
      intro q
      by_cases h : q < n
      · rw [hq q (by omega), ups_get n q h]
      · rw [List.getElem?_eq_none (by omega), List.getElem?_eq_none (by rw [ups_length]; omega)]
    rw [e, show (i : Int) = n by omega]
  | succ j ih =>
    intro i k x hi hx hq hk
    obtain ⟨k, rfl⟩ : ∃ q, k = q + 1 := ⟨k - 1, by omega⟩
    simp only [laws_markIntS.l0]
    rw [if_pos (by omega), if_pos (by omega), wrap_succ i (by omega), Int.toNat_natCast, show wrap64 ((i : Int) + 1 + 1) = ((i + 1 : Nat) : Int) + 1 by unfold wrap64; omega]
    refine ih (i + 1) k _ (by omega) (by simpa using hx) (fun q hq2 => ?_) (by omega)
    by_cases e : q = i
    · subst e
      rw [List.getElem?_set_self (by omega)]
    · rw [List.getElem?_set_ne (by omega)]
      exact hq q (by omega)
theorem mark_ev (x : List Int) (hl : x.length ≤ 1048576) : Ev (fun k => laws_markIntS.f k x 1) ((x.length : Int) + 1, ups x.length) :=
  ⟨x.length + 1, fun k hk => mark_loop x.length hl x.length 0 k x (by omega) rfl (fun q h => by omega) (by omega)⟩
theorem held_loop (n : Nat) (hn : n ≤ 1048576) : ∀ (j i k : Nat), i + j = n → j < k → laws_heldIntS.l0 k (ups n) ((i : Int) + 1) i = some ((n : Int) + 1) := by
  intro j
  induction j with
  | zero =>
    intro i k hi hk
    obtain ⟨k, rfl⟩ : ∃ q, k = q + 1 := ⟨k - 1, by omega⟩
    simp only [laws_heldIntS.l0, ups_length]
    rw [if_neg (by omega), show (i : Int) = n by omega]
  | succ j ih =>
    intro i k hi hk
    obtain ⟨k, rfl⟩ : ∃ q, k = q + 1 := ⟨k - 1, by omega⟩
    simp only [laws_heldIntS.l0, ups_length]
    have e : rd (ups n) (i : Int) = (i : Int) + 1 := by
      have := ups_get n i (by omega)
      simp [rd, List.getD_eq_getElem?_getD, this]
    rw [if_pos (by omega), if_pos (by omega), if_pos e, wrap_succ i (by omega), show wrap64 ((i : Int) + 1 + 1) = ((i + 1 : Nat) : Int) + 1 by unfold wrap64; omega]
    exact ih (i + 1) k (by omega) (by omega)
theorem held_ev (n : Nat) (hl : n ≤ 1048576) : Ev (fun k => laws_heldIntS.f k (ups n) 1) ((n : Int) + 1) :=
  ⟨n + 1, fun k hk => held_loop n hl n 0 k (by omega) (by omega)⟩

/-- What both tell. -/
def told (x : List Int) (a : Int) : List Int × Bool := if (W x ∧ x.length ≤ 6) ∧ 2 ≤ a ∧ a ≤ 3 then ((found x a.toNat).head?.getD [], true) else ([], false)

theorem specFirst_ev (x : List Int) (hl : x.length ≤ 1048576) (a : Int) : Ev (fun k => spec_FirstBest.f k x a) (told x a) := by
  unfold spec_FirstBest.f told
  refine ev_bind (beAsked_ev x hl a) (h := fun t k => if t = true then (if (x.length : Int) > 6 then (some (([] : List Int), false)) else ((Go.Proofs.Ytmbkdapofcgccaa.BeFind.spec_beFind.f k x a).bind fun bt102 => (some (bt102.1, true)))) else (some (([] : List Int), false))) ?_
  by_cases h : W x ∧ 2 ≤ a ∧ a ≤ 3
  · by_cases h6 : x.length ≤ 6
    · obtain ⟨m, rfl⟩ : ∃ m : Nat, a = m := ⟨a.toNat, by omega⟩
      simp only [h, h6, and_self, decide_true, if_true, if_neg (show ¬ (x.length : Int) > 6 by omega), Int.toNat_natCast]
      have hw := h.1
      exact ev_bind (beFind_ev m (by omega) x (by have := hw.1; omega) (fun q hq => by have := hw.2 q hq; omega)) (ev_some _)
    · simp only [h, h6, and_self, decide_true, if_true, if_pos (show (x.length : Int) > 6 by omega), and_false, false_and, if_false]
      exact ev_some _
  · have e : ¬ ((W x ∧ x.length ≤ 6) ∧ 2 ≤ a ∧ a ≤ 3) := fun h2 => h ⟨h2.1.1, h2.2⟩
    simp only [h, e, decide_false, Bool.false_eq_true, if_false]
    exact ev_some _
theorem implFirst_ev (x : List Int) (hl : x.length ≤ 1048576) (a : Int) : Ev (fun k => impl_FirstBest.f k x a) (told x a) := by
  unfold impl_FirstBest.f told
  simp only [areLetters_eq, Option.bind_some]
  refine ev_bind (isSearched_ev x hl) (h := fun t k => if t = true then (if decide (2 ≤ a ∧ a ≤ 3) = true then ((Go.Proofs.Ytmbkdapofcgccaa.AllBest.impl_allBest.f k x a).bind fun t132 => (if 0 < (t132.length : Int) then (some (rd_L1 t132 0, true)) else (none))) else (some (([] : List Int), false))) else (some (([] : List Int), false))) ?_
  by_cases h : W x ∧ x.length ≤ 6
  · by_cases ha : 2 ≤ a ∧ a ≤ 3
    · obtain ⟨m, rfl⟩ : ∃ m : Nat, a = m := ⟨a.toNat, by omega⟩
      simp only [h, ha, and_self, decide_true, if_true, Int.toNat_natCast]
      have hw := h.1
      have hpos := found_some m (by omega) x (by have := hw.1; omega) (fun q hq => by have := hw.2 q hq; omega)
      refine ev_bind (allBest_ev m (by omega) x (by have := hw.1; omega) (fun q hq => by have := hw.2 q hq; omega)) (h := fun t132 _ => if 0 < (t132.length : Int) then (some (rd_L1 t132 0, true)) else (none)) (ev_of (fun _ => ?_))
      rw [if_pos (by omega)]
      generalize found x m = F at hpos ⊢
      cases F with
      | nil => simp at hpos
      | cons p l => rfl
    · simp only [h, ha, and_self, decide_true, decide_false, if_true, Bool.false_eq_true, if_false, and_false]
      exact ev_some _
  · simp only [h, decide_false, Bool.false_eq_true, if_false, false_and]
    exact ev_some _
theorem tryAll_lens (m : Int) : ∀ (ws l : List Int) (share cost : Int), ∀ y ∈ Go.Proofs.Ytmbkdapofcgccaa.BeTry.tryAll m ws l share cost, y.length = l.length + ws.length
  | [], l, share, cost, y, hy => by
    simp only [Go.Proofs.Ytmbkdapofcgccaa.BeTry.tryAll] at hy
    split at hy
    · simp at hy
    · split at hy
      · rw [List.mem_singleton.1 hy]; simp
      · simp at hy
  | w :: ws, l, share, cost, y, hy => by
    simp only [Go.Proofs.Ytmbkdapofcgccaa.BeTry.tryAll] at hy
    split at hy
    · simp at hy
    · obtain ⟨i, _, hy⟩ := List.mem_flatMap.1 hy
      have := tryAll_lens m ws _ _ _ y hy
      rw [List.length_append, List.length_singleton] at this
      rw [List.length_cons]
      omega
theorem told_len (x : List Int) (hl : x.length ≤ 1048576) (a : Int) : (told x a).1.length ≤ 1048576 := by
  unfold told
  split
  · have key : ∀ y ∈ found x a.toNat, y.length ≤ 1048576 := fun y hy => by have := tryAll_lens _ _ _ _ _ y hy; simp at this; omega
    cases h : found x a.toNat with
    | nil => simp
    | cons p l => simpa using key p (by rw [h]; simp)
  · simp

theorem FnExactFirstBest : laws_FnExactFirstBest.Pure := by
  intro l0 a1 _ _ _ _
  unfold laws_FnExactFirstBest.f
  by_cases hl : (l0.length : Int) > 1048576
  · exact ⟨0, by rw [if_pos hl]⟩
  · have hl' : l0.length ≤ 1048576 := by omega
    have ht := told_len l0 hl' a1
    obtain ⟨r, b, hr⟩ : ∃ r b, told l0 a1 = (r, b) := ⟨_, _, rfl⟩
    rw [hr] at ht
    simp only at ht
    have sp := specFirst_ev l0 hl' a1
    have im := implFirst_ev l0 hl' a1
    rw [hr] at sp im
    have cp := toIntS_ev l0 hl'
    have er := eqIntS_ev r ht
    have el := eqIntS_ev l0 hl'
    have last2 : Ev (fun k => laws_FnExactFirstBest.j2 k (ups r.length) ((r.length : Int) + 1) false) true := by
      refine Ev.step (f := fun k => (laws_heldIntS.f k (ups r.length) 1).bind fun t171 => (if t171 < 0 then (some false) else (if t171 = (r.length : Int) + 1 then (some true) else (some false)))) (fun k => ?_) (ev_bind (held_ev r.length ht) (h := fun t171 _ => (if t171 < 0 then (some false) else (if t171 = (r.length : Int) + 1 then (some true) else (some false)))) (ev_of (fun _ => by rw [if_neg (by omega), if_pos rfl])))
      simp only [laws_FnExactFirstBest.j2]
      rw [if_neg (by decide)]
    have last1 : Ev (fun k => laws_FnExactFirstBest.j1 k l0 a1 r b r false) true := by
      refine Ev.step (f := fun k => (laws_markIntS.f k r 1).bind fun bt160 => ((laws_heldIntS.f k bt160.2 1).bind fun t162 => (if t162 < 0 then (some false) else (if t162 = bt160.1 then ((Go.Proofs.Ytmbkdapofcgccaa.Pr.laws_toIntS.f k l0).bind fun t163 => ((impl_FirstBest.f k t163 a1).bind fun bt166 => ((Go.Proofs.Ytmbkdapofcgccaa.Pr.laws_eqIntS.f k bt166.1 r).bind fun t170 => (if t170 = true then (laws_FnExactFirstBest.j2 k bt160.2 bt160.1 (bt166.2 != b)) else (laws_FnExactFirstBest.j2 k bt160.2 bt160.1 true))))) else (some false))))) (fun k => ?_) ?_
      · simp only [laws_FnExactFirstBest.j1]
        rw [if_neg (by decide)]
      · refine Ev.bind (mark_ev r ht) (Ev.bind (held_ev r.length ht) ?_)
        simp only [if_neg (show ¬ (r.length : Int) + 1 < 0 by omega), if_true]
        refine Ev.bind cp (Ev.bind im (Ev.bind er ?_))
        simp only [if_true, bne_self_eq_false]
        exact last2
    have last0 : Ev (fun k => laws_FnExactFirstBest.j0 k l0 a1 r b l0 r b false) true := by
      refine Ev.step (f := fun k => (Go.Proofs.Ytmbkdapofcgccaa.Pr.laws_toIntS.f k l0).bind fun t153 => ((Go.Proofs.Ytmbkdapofcgccaa.Pr.laws_eqIntS.f k l0 t153).bind fun t156 => (if t156 = true then ((laws_markIntS.f k l0 1).bind fun bt157 => (if bt157.1 < 0 then (laws_FnExactFirstBest.j1 k l0 a1 r b r true) else ((Go.Proofs.Ytmbkdapofcgccaa.Pr.laws_eqIntS.f k r r).bind fun t159 => (if t159 = true then (laws_FnExactFirstBest.j1 k l0 a1 r b r (b != b)) else (laws_FnExactFirstBest.j1 k l0 a1 r b r true))))) else (some false)))) (fun k => ?_) ?_
      · simp only [laws_FnExactFirstBest.j0]
        rw [if_neg (by decide)]
      · refine Ev.bind cp (Ev.bind el ?_)
        simp only [if_true]
        refine Ev.bind (mark_ev l0 hl') ?_
        simp only [if_neg (show ¬ (l0.length : Int) + 1 < 0 by omega)]
        refine Ev.bind er ?_
        simp only [if_true, bne_self_eq_false]
        exact last1
    have all : Ev (fun k => (Go.Proofs.Ytmbkdapofcgccaa.Pr.laws_toIntS.f k l0).bind fun t138 => ((spec_FirstBest.f k t138 a1).bind fun bt141 => ((Go.Proofs.Ytmbkdapofcgccaa.Pr.laws_toIntS.f k l0).bind fun t145 => ((impl_FirstBest.f k t145 a1).bind fun bt148 => ((Go.Proofs.Ytmbkdapofcgccaa.Pr.laws_eqIntS.f k bt148.1 bt141.1).bind fun t152 => (if t152 = true then (laws_FnExactFirstBest.j0 k l0 a1 bt141.1 bt141.2 t145 bt148.1 bt148.2 (bt148.2 != bt141.2)) else (laws_FnExactFirstBest.j0 k l0 a1 bt141.1 bt141.2 t145 bt148.1 bt148.2 true))))))) true := by
      refine Ev.bind cp (Ev.bind sp (Ev.bind cp (Ev.bind im (Ev.bind er ?_))))
      simp only [if_true, bne_self_eq_false]
      exact last0
    obtain ⟨k, hk⟩ := Ev.rounds all
    exact ⟨k, by rw [if_neg hl]; exact hk⟩

end Go.Proofs.Ytmbkdapofcgccaa.Pure
