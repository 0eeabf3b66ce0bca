/- Words in plain terms, and what the laws' small helpers tell of lists of words. -/
import Derived.Test.YtmdaggnfgghnfaaDoorWMore
import Derived.Test.YtmdaggnfgghnfaaDoorGs
import Derived.Test.YtmdaggnfgghnfaaDoorPcM0
namespace Go.Proofs.YtmdaggnfgghnfaaDoor.Wd
open Go.RowKit Go.Proofs.YtmdaggnfgghnfaaDoorW.PrintWords Go.Proofs.YtmdaggnfgghnfaaDoorW.PrintLast Go.Proofs.YtmdaggnfgghnfaaDoorW.PrintMore
set_option linter.unusedVariables false
set_option linter.unusedSimpArgs false

theorem ev_some {α : Type} (x : α) : Ev (fun _ => some x) x := ⟨0, fun _ _ => rfl⟩
theorem ev_of {α : Type} {g : Nat → Option α} {x : α} (h : ∀ k, g k = some x) : Ev g x := ⟨0, fun k _ => h k⟩
theorem ev_ge {α : Type} {g : Nat → Option α} {x : α} (K : Nat) (h : ∀ k, K < k → g k = some x) : Ev g x := ⟨K + 1, fun k hk => h k (by omega)⟩
theorem ev_uniq {α : Type} {g : Nat → Option α} {x y : α} (h : Ev g x) (h' : Ev g y) : x = y := by
  obtain ⟨K1, h1⟩ := h
  obtain ⟨K2, h2⟩ := h'
  have e1 := h1 (max K1 K2) (by omega)
  have e2 := h2 (max K1 K2) (by omega)
  rw [e1] at e2
  exact Option.some.inj e2
theorem wrap_succ (i : Nat) (h : i < 1000000000000000000) : wrap64 ((i : Int) + 1) = ((i + 1 : Nat) : Int) := by unfold wrap64; omega
theorem rdOf_lt (l : List ByteArray) (i : Nat) (h : i < l.length) : rdOf ByteArray.empty l (i : Int) = l[i] := by simp [rdOf, List.getD_eq_getElem?_getD, List.getElem?_eq_getElem h]
theorem rd_lt (l : List Int) (i : Nat) (h : i < l.length) : rd l (i : Int) = l[i] := by simp [rd, List.getD_eq_getElem?_getD, List.getElem?_eq_getElem h]
theorem bt_lt (s : ByteArray) (i : Nat) (h : i < s.size) : bt s (i : Int) = (s.data.toList[i]'(by simpa using h)).toNat := by
  have := bt_at s (i : Int) (by simpa using h)
  rw [← this]
  simp [ByteArray.getElem_eq_getElem_data]

/-! ### copies, equal lists, sizes -/
theorem toStringS_loop (x0 : List ByteArray) (hl : x0.length ≤ 1048576) : ∀ (j i k : Nat) (x3 : List ByteArray), i + j = x0.length → x3.length = x0.length → (∀ q, q < i → x3[q]? = x0[q]?) → j < k → Go.Proofs.YtmdaggnfgghnfaaDoor.Pc.laws_toStringS.l0 k x0 x3 i = some x0 := by
  intro j
  induction j with
  | zero =>
    intro i k x3 hi h3 hq hk
    obtain ⟨k, rfl⟩ : ∃ q, k = q + 1 := ⟨k - 1, by omega⟩
    simp only [Go.Proofs.YtmdaggnfgghnfaaDoor.Pc.laws_toStringS.l0]
    rw [if_neg (by omega)]
    congr 1
    apply List.ext_getElem?
    intro q
    by_cases hq' : q < i
    · exact hq q hq'
    · rw [List.getElem?_eq_none (by omega), List.getElem?_eq_none (by omega)]
  | succ j ih =>
    intro i k x3 hi h3 hq hk
    obtain ⟨k, rfl⟩ : ∃ q, k = q + 1 := ⟨k - 1, by omega⟩
    simp only [Go.Proofs.YtmdaggnfgghnfaaDoor.Pc.laws_toStringS.l0]
    rw [if_pos (by omega), if_pos (by omega), if_pos (by omega), wrap_succ i (by omega)]
    refine ih (i + 1) k _ (by omega) (by simpa using h3) (fun q hq' => ?_) (by omega)
    rw [Int.toNat_natCast, rdOf_lt x0 i (by omega)]
    by_cases e : q = i
    · subst e
      rw [List.getElem?_set_self (by omega), List.getElem?_eq_getElem]
    · rw [List.getElem?_set_ne (by omega)]
      exact hq q (by omega)
theorem toStringS_ev (x0 : List ByteArray) (hl : x0.length ≤ 1048576) : Ev (fun k => Go.Proofs.YtmdaggnfgghnfaaDoor.Pc.laws_toStringS.f k x0) x0 := by
  refine ev_ge x0.length fun k hk => ?_
  unfold Go.Proofs.YtmdaggnfgghnfaaDoor.Pc.laws_toStringS.f
  rw [if_pos (by omega), if_pos (by omega)]
  exact toStringS_loop x0 hl x0.length 0 k _ (by omega) (by simp) (fun q hq => by omega) (by omega)

theorem eqStringS_loop (x0 : List ByteArray) (hl : x0.length ≤ 1048576) : ∀ (j i k : Nat), i + j = x0.length → j < k → Go.Proofs.YtmdaggnfgghnfaaDoor.Pc.laws_eqStringS.l0 k x0 x0 i = some true := by
  intro j
  induction j with
  | zero =>
    intro i k hi hk
    obtain ⟨k, rfl⟩ : ∃ q, k = q + 1 := ⟨k - 1, by omega⟩
    simp only [Go.Proofs.YtmdaggnfgghnfaaDoor.Pc.laws_eqStringS.l0]
    rw [if_neg (by omega)]
  | succ j ih =>
    intro i k hi hk
    obtain ⟨k, rfl⟩ : ∃ q, k = q + 1 := ⟨k - 1, by omega⟩
    simp only [Go.Proofs.YtmdaggnfgghnfaaDoor.Pc.laws_eqStringS.l0]
    rw [if_pos (by omega), if_pos (by omega), if_pos (by omega), if_pos trivial, wrap_succ i (by omega)]
    exact ih (i + 1) k (by omega) (by omega)
theorem eqStringS_ev (x0 : List ByteArray) (hl : x0.length ≤ 1048576) : Ev (fun k => Go.Proofs.YtmdaggnfgghnfaaDoor.Pc.laws_eqStringS.f k x0 x0) true := by
  refine ev_ge x0.length fun k hk => ?_
  unfold Go.Proofs.YtmdaggnfgghnfaaDoor.Pc.laws_eqStringS.f
  rw [if_pos rfl]
  exact eqStringS_loop x0 hl x0.length 0 k (by omega) (by omega)

/-- Not too much: at most so many words, none too long. -/
def Fit (l : List ByteArray) : Prop := l.length ≤ 1048576 ∧ ∀ s ∈ l, s.size ≤ 1048576
theorem sz_loop (x0 : List ByteArray) (hs : ∀ s ∈ x0, s.size ≤ 9223372036854775807) (hl : x0.length ≤ 1048576) : ∀ (j i k : Nat) (a : Int), i + j = x0.length → j < k → 0 ≤ a → a ≤ 1048576 → ∃ r, Go.Proofs.YtmdaggnfgghnfaaDoor.Pc.laws_szStringS.l0 k x0 a i = some r ∧ (r < 0 ∨ 0 ≤ r ∧ r ≤ a ∧ ∀ s ∈ x0.drop i, s.size ≤ 1048576) := by
  intro j
  induction j with
  | zero =>
    intro i k a hi hk h0 h1
    obtain ⟨k, rfl⟩ : ∃ q, k = q + 1 := ⟨k - 1, by omega⟩
    simp only [Go.Proofs.YtmdaggnfgghnfaaDoor.Pc.laws_szStringS.l0]
    rw [if_neg (by omega)]
    refine ⟨_, rfl, .inr ⟨h0, Int.le_refl _, ?_⟩⟩
    rw [List.drop_eq_nil_of_le (by omega)]
    intro s hs
    cases hs
  | succ j ih =>
    intro i k a hi hk h0 h1
    obtain ⟨k, rfl⟩ : ∃ q, k = q + 1 := ⟨k - 1, by omega⟩
    simp only [Go.Proofs.YtmdaggnfgghnfaaDoor.Pc.laws_szStringS.l0]
    have hsz := hs _ (List.getElem_mem (show i < x0.length by omega))
    rw [if_pos (by omega), if_pos (by omega), rdOf_lt x0 i (by omega), wrap_succ i (by omega)]
    have e : wrap64 (a - (x0[i].size : Int)) = a - x0[i].size := by unfold wrap64; omega
    rw [e]
    by_cases hn : a - (x0[i].size : Int) < 0
    · rw [if_pos hn]
      exact ⟨_, rfl, .inl (by omega)⟩
    · rw [if_neg hn]
      obtain ⟨r, hr, h⟩ := ih (i + 1) k (a - x0[i].size) (by omega) (by omega) (by omega) (by omega)
      refine ⟨r, hr, h.imp id fun ⟨h2, h3, h4⟩ => ⟨h2, by omega, ?_⟩⟩
      rw [List.drop_eq_getElem_cons (by omega)]
      intro s hs
      rcases List.mem_cons.1 hs with rfl | hs
      · omega
      · exact h4 s hs
theorem szStringS_ev (x0 : List ByteArray) (hb : x0.length ≤ 140737488351232) (hs : ∀ s ∈ x0, s.size ≤ 9223372036854775807) (a : Int) (h0 : 0 ≤ a) (h1 : a ≤ 1048576) : ∃ r, Ev (fun k => Go.Proofs.YtmdaggnfgghnfaaDoor.Pc.laws_szStringS.f k x0 a) r ∧ (r < 0 ∨ 0 ≤ r ∧ r ≤ a ∧ Fit x0) := by
  have e : wrap64 (a - (x0.length : Int)) = a - x0.length := by unfold wrap64; omega
  by_cases hn : a - (x0.length : Int) < 0
  · refine ⟨-1, ev_of fun k => ?_, .inl (by omega)⟩
    unfold Go.Proofs.YtmdaggnfgghnfaaDoor.Pc.laws_szStringS.f
    rw [e, if_pos hn]
  · obtain ⟨r, hr, h⟩ := sz_loop x0 hs (by omega) x0.length 0 (x0.length + 1) (a - x0.length) (by omega) (by omega) (by omega) (by omega)
    refine ⟨r, Ev.of (fun k => Go.Proofs.YtmdaggnfgghnfaaDoor.Pc.laws_szStringS.mono _ _ _) (k := x0.length + 1) ?_, h.imp id fun ⟨h2, h3, h4⟩ => ⟨h2, by omega, by omega, by simpa using h4⟩⟩
    unfold Go.Proofs.YtmdaggnfgghnfaaDoor.Pc.laws_szStringS.f
    rw [e, if_neg hn]
    exact hr

/-! ### words -/
def okB (c : UInt8) : Bool := decide (97 ≤ c.toNat) && decide (c.toNat ≤ 99)
def abc (s : ByteArray) : Bool := s.data.toList.all okB
def shortB (s : ByteArray) : Bool := decide (1 ≤ s.size ∧ s.size ≤ 8) && abc s
def ltB (s t : ByteArray) : Bool := decide (s.size < t.size) || (decide (s.size = t.size) && Op.bytesLess s.data.toList t.data.toList)

theorem okB_lo {c : UInt8} (h : c.toNat < 97) : okB c = false := by unfold okB; rw [decide_eq_false (by omega)]; rfl
theorem okB_hi {c : UInt8} (h : ¬ c.toNat ≤ 99) : okB c = false := by unfold okB; rw [decide_eq_false h]; exact Bool.and_false _
theorem okB_ok {c : UInt8} (h : ¬ c.toNat < 97) (h2 : c.toNat ≤ 99) : okB c = true := by unfold okB; rw [decide_eq_true (by omega), decide_eq_true h2]; rfl
theorem all_drop (l : List UInt8) (i : Nat) (hi : i < l.length) : (l.drop i).all okB = (okB l[i] && (l.drop (i + 1)).all okB) := by
  rw [List.drop_eq_getElem_cons hi]
  rfl
theorem size_len (s : ByteArray) : s.data.toList.length = s.size := by simp
theorem wdIs_loop (s : ByteArray) (hl : s.size ≤ 1048576) : ∀ (j i k : Nat), i + j = s.size → j < k → Go.Proofs.YtmdaggnfgghnfaaDoor.Pc.spec_wdIs.l0 k s i = some ((s.data.toList.drop i).all okB) := by
  intro j
  induction j with
  | zero =>
    intro i k hi hk
    obtain ⟨k, rfl⟩ : ∃ q, k = q + 1 := ⟨k - 1, by omega⟩
    simp only [Go.Proofs.YtmdaggnfgghnfaaDoor.Pc.spec_wdIs.l0]
    rw [if_neg (by omega), List.drop_eq_nil_of_le (by rw [size_len]; omega)]
    rfl
  | succ j ih =>
    intro i k hi hk
    obtain ⟨k, rfl⟩ : ∃ q, k = q + 1 := ⟨k - 1, by omega⟩
    simp only [Go.Proofs.YtmdaggnfgghnfaaDoor.Pc.spec_wdIs.l0]
    have hlt : i < s.data.toList.length := by rw [size_len]; omega
    have h8 := (s.data.toList[i]).toNat_lt
    rw [if_pos (by omega), if_pos (by omega), bt_lt s i (by omega), wrap_succ i (by omega), ih (i + 1) k (by omega) (by omega), all_drop _ i hlt]
    by_cases h1 : (s.data.toList[i]).toNat < 97
    · rw [if_pos (by omega)]
      rw [okB_lo h1]
      rfl
    · rw [if_neg (by omega)]
      by_cases h2 : (s.data.toList[i]).toNat ≤ 99
      · rw [if_neg (by omega)]
        rw [okB_ok h1 h2]
        rfl
      · rw [if_pos (by omega)]
        rw [okB_hi h2]
        rfl
theorem wdIs_ev (s : ByteArray) (hl : s.size ≤ 1048576) : Ev (fun k => Go.Proofs.YtmdaggnfgghnfaaDoor.Pc.spec_wdIs.f k s) (abc s) :=
  ev_ge s.size fun k hk => by
    have := wdIs_loop s hl s.size 0 k (by omega) (by omega)
    rw [List.drop_zero] at this
    exact this
theorem l1In_eq (a b c : Int) : Go.Proofs.YtmdaggnfgghnfaaDoor.Pc.spec_l1In.f a b c = some (decide (b ≤ a ∧ a ≤ c)) := by
  unfold Go.Proofs.YtmdaggnfgghnfaaDoor.Pc.spec_l1In.f
  split
  · rename_i h; congr 1; simp; omega
  · rename_i h; congr 1; simp; omega
theorem in_eq (a b c : Int) : Go.Proofs.YtmdaggnfgghnfaaDoor.Pc.impl_in.f a b c = some (decide (b ≤ a ∧ a ≤ c)) := by
  unfold Go.Proofs.YtmdaggnfgghnfaaDoor.Pc.impl_in.f
  split
  · rename_i h; congr 1; simp; omega
  · rename_i h; congr 1; simp; omega
theorem dec_short (s : ByteArray) : decide ((1 : Int) ≤ (s.size : Int) ∧ (s.size : Int) ≤ 8) = decide (1 ≤ s.size ∧ s.size ≤ 8) := by
  rw [decide_eq_decide]; omega
theorem wdShort_ev (s : ByteArray) (hl : s.size ≤ 1048576) : Ev (fun k => Go.Proofs.YtmdaggnfgghnfaaDoor.Pc.spec_wdShort.f k s) (shortB s) := by
  unfold Go.Proofs.YtmdaggnfgghnfaaDoor.Pc.spec_wdShort.f
  simp only [l1In_eq, Option.bind_some, dec_short]
  by_cases h : 1 ≤ s.size ∧ s.size ≤ 8
  · have e : shortB s = abc s := by simp [shortB, h]
    rw [e]
    simp only [h, and_self, decide_true, if_true]
    exact Ev.bind (wdIs_ev s hl) (ev_some _)
  · have e : shortB s = false := by simp [shortB]; intro a b; omega
    rw [e]
    simp only [h, decide_false, Bool.false_eq_true, if_false]
    exact ev_some _
theorem wdLess_eq (s t : ByteArray) : Go.Proofs.YtmdaggnfgghnfaaDoor.Pc.spec_wdLess.f s t = some (ltB s t) := by
  unfold Go.Proofs.YtmdaggnfgghnfaaDoor.Pc.spec_wdLess.f ltB
  by_cases h1 : s.size < t.size
  · rw [if_pos (by omega)]; simp [h1]
  · rw [if_neg (by omega)]
    by_cases h2 : s.size = t.size
    · rw [if_pos (by omega)]; simp [h2, ByteArray.toList_eq]
    · rw [if_neg (by omega)]; simp [h1, h2]

/-! ### the program's side -/
set_option maxRecDepth 100000 in
theorem contains_abc (c : UInt8) : [97, 98, 99].contains c = okB c := by
  have : ∀ n : Fin 256, [97, 98, 99].contains (UInt8.ofNat n) = okB (UInt8.ofNat n) := by decide
  have h := this ⟨c.toNat, c.toNat_lt⟩
  simpa using h
theorem drop_nil {α : Type} (p : α → Bool) : ∀ l : List α, (l.dropWhile p).isEmpty = l.all p
  | [] => rfl
  | a :: l => by
    by_cases h : p a = true
    · simp [List.dropWhile_cons, h, drop_nil p l]
    · simp [List.dropWhile_cons, h]
theorem trim_nil (l : List UInt8) : (Lib.trimS l [97, 98, 99]).isEmpty = l.all okB := by
  have e : (fun c => List.contains [97, 98, 99] c) = okB := funext contains_abc
  unfold Lib.trimS Lib.trimLeftS Lib.trimRightS
  rw [e, drop_nil]
  rw [List.all_reverse]
  have h1 : ∀ m : List UInt8, (m.dropWhile okB).all okB = m.all okB := by
    intro m
    induction m with
    | nil => rfl
    | cons a m ih =>
      by_cases h : okB a = true
      · simp [List.dropWhile_cons, h, ih]
      · simp [List.dropWhile_cons, h]
  rw [h1, List.all_reverse]
theorem isWord_eq (s : ByteArray) (hl : s.size ≤ 1048576) : Go.Proofs.YtmdaggnfgghnfaaDoor.Pc.impl_isWord.f s = some (decide (s.size ≤ 60) && abc s) := by
  unfold Go.Proofs.YtmdaggnfgghnfaaDoor.Pc.impl_isWord.f
  by_cases h : s.size ≤ 60
  · rw [if_pos (by omega)]
    have e : Gs.strings_Trim.f s ⟨#[97, 98, 99]⟩ = some ⟨(Lib.trimS s.data.toList [97, 98, 99]).toArray⟩ := by
      unfold Gs.strings_Trim.f
      rw [if_pos ⟨⟨by omega, by decide⟩, by decide⟩]
    rw [e, Option.bind_some]
    congr 1
    have := trim_nil s.data.toList
    simp only [h, decide_true, Bool.true_and, abc]
    rw [← this, ByteArray.toList_eq]
    cases Lib.trimS s.data.toList [97, 98, 99] <;> simp
  · rw [if_neg (by omega)]
    simp [h]
theorem isShort_eq (s : ByteArray) (hl : s.size ≤ 1048576) : Go.Proofs.YtmdaggnfgghnfaaDoor.Pc.impl_isShort.f s = some (shortB s) := by
  unfold Go.Proofs.YtmdaggnfgghnfaaDoor.Pc.impl_isShort.f
  rw [isWord_eq s hl, Option.bind_some]
  simp only [in_eq, Option.bind_some, dec_short]
  unfold shortB
  by_cases h : 1 ≤ s.size ∧ s.size ≤ 8
  · cases ha : abc s <;> simp [h, ha]; omega
  · cases ha : abc s <;> simp [h, ha]
end Go.Proofs.YtmdaggnfgghnfaaDoor.Wd
