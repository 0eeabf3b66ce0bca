/- Words the other way round: both sides make the same set of them. -/
import Derived.Test.YtmdaggnfgghnfaaDoorDlR
import Derived.Test.YtmdaggnfgghnfaaDoorBk
import Derived.Test.YtmdaggnfgghnfaaDoorPfM1
import Derived.Test.YtmdaggnfgghnfaaDoorPhM0
namespace Go.Proofs.YtmdaggnfgghnfaaDoor.DlB
open Go Go.RowKit Go.Proofs.YtmdaggnfgghnfaaDoorW.PrintWords Go.Proofs.YtmdaggnfgghnfaaDoorW.PrintLast Go.Proofs.YtmdaggnfgghnfaaDoorW.PrintMore Go.Proofs.YtmdaggnfgghnfaaDoor.Wd Go.Proofs.YtmdaggnfgghnfaaDoor.Wset Go.Proofs.YtmdaggnfgghnfaaDoor.CmpWords Go.Proofs.YtmdaggnfgghnfaaDoor.SortS Go.Proofs.YtmdaggnfgghnfaaDoor.Ord Go.Proofs.YtmdaggnfgghnfaaDoor.DlP Go.Proofs.YtmdaggnfgghnfaaDoor.DlQ Go.Proofs.YtmdaggnfgghnfaaDoor.DlR
set_option linter.unusedVariables false
set_option linter.unusedSimpArgs false
def revW (s : ByteArray) : ByteArray := ⟨s.data.toList.reverse.toArray⟩
theorem revW_eq (s : ByteArray) : strOfNums (bytesOf s).reverse = revW s := by
  apply Go.WideShapes.bytes_inj
  unfold strOfNums bytesOf revW
  simp only [List.map_reverse, List.map_map, List.toList_toArray]
  congr 1
  refine (List.map_congr_left (fun b _ => ?_)).trans (List.map_id _)
  simp
theorem revW_size (s : ByteArray) : (revW s).size = s.size := by
  show s.data.toList.reverse.toArray.size = s.data.size
  rw [List.size_toArray, List.length_reverse, Array.length_toList]
theorem back_eq (s : ByteArray) (h : s.size ≤ 1048576) : Bk.impl_back.f s = some (revW s) := by
  unfold Bk.impl_back.f
  rw [if_pos (by omega), revW_eq]
theorem wdBack_ev (s : ByteArray) (h : s.size ≤ 1048576) : Ev (fun k => Go.Proofs.YtmdaggnfgghnfaaDoor.Pf.spec_wdBack.f k s) (revW s) := by
  have hl : s.data.toList.length = s.size := by simp
  have key : ∀ (j : Nat) (acc : ByteArray), j ≤ s.size → acc.data.toList = (s.data.toList.drop j).reverse → ∀ k, j < k → Go.Proofs.YtmdaggnfgghnfaaDoor.Pf.spec_wdBack.l0 k s acc ((j : Int) - 1) = some (revW s) := by
    intro j
    induction j with
    | zero =>
      intro acc _ ha k hk
      obtain ⟨k, rfl⟩ : ∃ q, k = q + 1 := ⟨k - 1, by omega⟩
      simp only [Go.Proofs.YtmdaggnfgghnfaaDoor.Pf.spec_wdBack.l0]
      rw [if_neg (by omega)]
      refine congrArg some (Go.WideShapes.bytes_inj ?_)
      rw [ha, List.drop_zero]
      simp [revW]
    | succ j ih =>
      intro acc hj ha k hk
      obtain ⟨k, rfl⟩ : ∃ q, k = q + 1 := ⟨k - 1, by omega⟩
      have e0 : (((j + 1 : Nat) : Int) - 1) = (j : Int) := by omega
      have hasz : acc.size = s.size - (j + 1) := by
        have : acc.data.toList.length = acc.size := by simp
        rw [← this, ha, List.length_reverse, List.length_drop, hl]
      have esz : (s.extract j (j + 1)).size = 1 := by rw [ByteArray.size_extract]; omega
      have e1 : wrap64 ((j : Int) - 1) = (j : Int) - 1 := by unfold wrap64; omega
      rw [e0]
      simp only [Go.Proofs.YtmdaggnfgghnfaaDoor.Pf.spec_wdBack.l0]
      rw [if_pos (by omega), if_pos (by omega), wrap_succ j (by omega), if_pos (by omega), if_pos (by omega), Int.toNat_natCast, Int.toNat_natCast, if_pos (by rw [esz, hasz]; omega), e1]
      refine ih _ (by omega) ?_ k (by omega)
      rw [ByteArray.data_append, ByteArray.data_extract, Array.toList_append, ha]
      have hd : s.data.toList.drop j = s.data.toList[j]'(by omega) :: s.data.toList.drop (j + 1) := List.drop_eq_getElem_cons (by omega)
      rw [hd, List.reverse_cons]
      congr 1
      simp only [Array.toList_extract, List.extract]
      rw [show j + 1 - j = 1 by omega]
      first
        | (rw [hd]; rfl)
        | (rw [List.take_one, hd]; rfl)
        | simp [hd]
  refine ev_ge s.size fun k hk => ?_
  unfold Go.Proofs.YtmdaggnfgghnfaaDoor.Pf.spec_wdBack.f
  have e1 : wrap64 ((s.size : Int) - 1) = (s.size : Int) - 1 := by unfold wrap64; omega
  rw [e1]
  exact key s.size ⟨#[]⟩ (Nat.le_refl _) (by rw [List.drop_of_length_le (by omega)]; rfl) k (by omega)
def turned (set : List ByteArray) : List ByteArray := ordW (set.map revW)
theorem mapped_ev {set : List ByteArray} (hs : Short set) : Ev (fun k => Go.Proofs.YtmdaggnfgghnfaaDoor.Ph.impl_mapped_at_impl_back.f k set) (turned set) := by
  have hl := hs.1
  have key : ∀ (j i : Nat), i + j = set.length → ∀ k, j < k → Go.Proofs.YtmdaggnfgghnfaaDoor.Ph.impl_mapped_at_impl_back.l0 k ((set.take i).map revW) set (set.length : Int) (i : Int) = some (turned set) := by
    intro j
    induction j with
    | zero =>
      intro i hi k hk
      obtain ⟨k, rfl⟩ : ∃ q, k = q + 1 := ⟨k - 1, by omega⟩
      simp only [Go.Proofs.YtmdaggnfgghnfaaDoor.Ph.impl_mapped_at_impl_back.l0]
      rw [if_neg (by omega), List.take_of_length_le (by omega), ordered_eq _ (by rw [List.length_map]; omega)]
      rfl
    | succ j ih =>
      intro i hi k hk
      obtain ⟨k, rfl⟩ : ∃ q, k = q + 1 := ⟨k - 1, by omega⟩
      have hlt : i < set.length := by omega
      have hz := hs.2 _ (List.getElem_mem hlt)
      have h := ih (i + 1) (by omega) k (by omega)
      rw [List.take_succ_eq_append_getElem hlt, List.map_append] at h
      simp only [Go.Proofs.YtmdaggnfgghnfaaDoor.Ph.impl_mapped_at_impl_back.l0]
      rw [if_pos (by omega), if_pos (by omega), if_pos (by omega), rdOf_lt set i hlt, back_eq _ (by omega), Option.bind_some, if_pos (by rw [List.length_map, List.length_take]; omega), wrap_succ i (by omega)]
      exact h
  refine ev_ge set.length fun k hk => ?_
  have := key set.length 0 (by omega) k (by omega)
  exact this
theorem wdReverse_ev {set : List ByteArray} (hs : Short set) : Ev (fun k => Go.Proofs.YtmdaggnfgghnfaaDoor.Pf.spec_wdReverse.f k set) (turned set) := by
  have hl := hs.1
  have key : ∀ (j i : Nat), i + j = set.length → Ev (fun k => Go.Proofs.YtmdaggnfgghnfaaDoor.Pf.spec_wdReverse.l0 k (ordW ((set.take i).map revW)) set (set.length : Int) (i : Int)) (turned set) := by
    intro j
    induction j with
    | zero =>
      intro i hi
      refine ev_ge 0 fun k hk => ?_
      obtain ⟨k, rfl⟩ : ∃ q, k = q + 1 := ⟨k - 1, by omega⟩
      simp only [Go.Proofs.YtmdaggnfgghnfaaDoor.Pf.spec_wdReverse.l0]
      rw [if_neg (by omega), List.take_of_length_le (by omega)]
      rfl
    | succ j ih =>
      intro i hi
      have hlt : i < set.length := by omega
      have hz := hs.2 _ (List.getElem_mem hlt)
      obtain ⟨K, h⟩ := ih (i + 1) (by omega)
      obtain ⟨K1, h1⟩ := wdBack_ev set[i] (by omega)
      obtain ⟨K2, h2⟩ := wdPut_ev (ordW ((set.take i).map revW)) (revW set[i]) (ordW_str _) (by have := ordW_le ((set.take i).map revW); rw [List.length_map, List.length_take] at this; omega)
      refine ev_ge (max (max K K1) K2) fun k hk => ?_
      obtain ⟨k, rfl⟩ : ∃ q, k = q + 1 := ⟨k - 1, by omega⟩
      have h := h k (by omega)
      have h1 := h1 k (by omega)
      have h2 := h2 k (by omega)
      simp only [] at h h1 h2
      rw [put_ord] at h2
      rw [List.take_succ_eq_append_getElem hlt, List.map_append] at h
      simp only [Go.Proofs.YtmdaggnfgghnfaaDoor.Pf.spec_wdReverse.l0]
      rw [if_pos (by omega), if_pos (by omega), if_pos (by omega), rdOf_lt set i hlt, h1, Option.bind_some, h2, Option.bind_some, wrap_succ i (by omega)]
      exact h
  obtain ⟨K, hK⟩ := key set.length 0 (by omega)
  refine ⟨K, fun k hk => ?_⟩
  have h := hK k hk
  simp only [List.take_zero, List.map_nil, ord_nil] at h
  exact h
theorem turned_short {set : List ByteArray} (hs : Short set) : Short (turned set) := by
  refine ⟨?_, fun z hz => ?_⟩
  · have := ordW_le (set.map revW)
    rw [List.length_map] at this
    have := hs.1
    unfold turned
    omega
  · unfold turned at hz
    rw [mem_ordW] at hz
    obtain ⟨s, hm, rfl⟩ := List.mem_map.1 hz
    rw [revW_size]
    exact hs.2 s hm
theorem turned_plain {set : List ByteArray} (hs : Plain set) : Plain (turned set) := by
  intro z hz hm
  unfold turned at hz
  rw [mem_ordW] at hz
  obtain ⟨s, hs', rfl⟩ := List.mem_map.1 hz
  refine hs s hs' ?_
  simpa [revW] using hm
open Classical in
theorem spec_ev (l : List ByteArray) (hf : Fit l) : Ev (fun k => Go.Proofs.YtmdaggnfgghnfaaDoor.Pf.spec_DelayBack.f k l) (if Set l then scan (turned l) 98 0 else (0, false)) := by
  unfold Go.Proofs.YtmdaggnfgghnfaaDoor.Pf.spec_DelayBack.f
  refine Ev.bind (wdSet_ev l hf) ?_
  by_cases h : Set l
  · simp only [h, decide_true, if_true]
    refine Ev.bind (wdReverse_ev (set_short h)) ?_
    exact Ev.bind (dlOf_ev (turned_short (set_short h))) (ev_some _)
  · simp only [h, decide_false, Bool.false_eq_true, if_false]
    exact ev_some _
open Classical in
theorem impl_ev (l : List ByteArray) (hf : Fit l) : Ev (fun k => Go.Proofs.YtmdaggnfgghnfaaDoor.Ph.impl_DelayBack.f k l) (if Set l then scan (turned l) 98 0 else (0, false)) := by
  unfold Go.Proofs.YtmdaggnfgghnfaaDoor.Ph.impl_DelayBack.f
  refine Ev.bind (isSet_ev l hf) ?_
  by_cases h : Set l
  · simp only [h, decide_true, if_true]
    refine Ev.bind (mapped_ev (set_short h)) ?_
    exact Ev.bind (delayOf_ev (turned_short (set_short h)) (turned_plain (set_plain h))) (ev_some _)
  · simp only [h, decide_false, Bool.false_eq_true, if_false]
    exact ev_some _
theorem pure (l0 : List ByteArray) (b0 : l0.length * 16 ≤ 140737488351232) (s0 : ∀ s ∈ l0, s.size ≤ 9223372036854775807) : ∃ k, Go.Proofs.YtmdaggnfgghnfaaDoor.Ph.laws_FnExactDelayBack.f k l0 = some true := by
  refine Ev.rounds ?_
  unfold Go.Proofs.YtmdaggnfgghnfaaDoor.Ph.laws_FnExactDelayBack.f
  obtain ⟨r, hr, h⟩ := szStringS_ev l0 (by omega) s0 1048576 (by omega) (by omega)
  refine Ev.bind hr ?_
  rcases h with hn | ⟨h0, _, hf⟩
  · simp only [if_pos hn]
    exact ev_some _
  · simp only [if_neg (show ¬ r < 0 by omega)]
    refine Ev.bind (toStringS_ev l0 hf.1) ?_
    refine Ev.bind (spec_ev l0 hf) ?_
    refine Ev.bind (toStringS_ev l0 hf.1) ?_
    refine Ev.bind (impl_ev l0 hf) ?_
    simp only [if_true, bne_self_eq_false]
    refine Ev.step (f := fun k => (Go.Proofs.YtmdaggnfgghnfaaDoor.Pc.laws_toStringS.f k l0).bind fun t118 => (Go.Proofs.YtmdaggnfgghnfaaDoor.Pc.laws_eqStringS.f k l0 t118).bind fun t121 => (if t121 = true then (some true) else (some false))) (fun k => ?_) ?_
    · simp only [Go.Proofs.YtmdaggnfgghnfaaDoor.Ph.laws_FnExactDelayBack.j0]
      rw [if_neg (by decide)]
    · refine Ev.bind (toStringS_ev l0 hf.1) ?_
      refine Ev.bind (eqStringS_ev l0 hf.1) ?_
      simp only [if_true]
      exact ev_some _
end Go.Proofs.YtmdaggnfgghnfaaDoor.DlB
