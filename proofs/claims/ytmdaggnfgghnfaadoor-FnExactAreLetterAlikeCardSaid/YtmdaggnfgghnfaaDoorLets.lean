/- The numbers of letters of a word: both sides count the same. -/
import Derived.Test.YtmdaggnfgghnfaaDoorWset
import Derived.Test.YtmdaggnfgghnfaaDoorPcM0
namespace Go.Proofs.YtmdaggnfgghnfaaDoor.Lets
open Go.RowKit Go.Proofs.YtmdaggnfgghnfaaDoorW.PrintWords Go.Proofs.YtmdaggnfgghnfaaDoorW.PrintLast Go.Proofs.YtmdaggnfgghnfaaDoorW.PrintMore Go.Proofs.YtmdaggnfgghnfaaDoor.Wd Go.Proofs.YtmdaggnfgghnfaaDoor.Wset
set_option linter.unusedVariables false
set_option linter.unusedSimpArgs false

def nums3 (l : List UInt8) : List Int := [(l.count 97 : Int), (l.count 98 : Int), (l.count 99 : Int)]
/-- The letters of a word. -/
def lets (s : ByteArray) : List Int := nums3 s.data.toList

theorem wdLetters_loop (s : ByteArray) (hl : s.size ≤ 1048576) (ha : abc s = true) : ∀ (j i k : Nat) (a b c : Int), i + j = s.size → j < k → 0 ≤ a → 0 ≤ b → 0 ≤ c → a ≤ i → b ≤ i → c ≤ i →
    Go.Proofs.YtmdaggnfgghnfaaDoor.Pc.spec_wdLetters.l0 k s [a, b, c] i = some [a + (s.data.toList.drop i).count 97, b + (s.data.toList.drop i).count 98, c + (s.data.toList.drop i).count 99] := by
  intro j
  induction j with
  | zero =>
    intro i k a b c hi hk _ _ _ _ _ _
    obtain ⟨k, rfl⟩ : ∃ q, k = q + 1 := ⟨k - 1, by omega⟩
    simp only [Go.Proofs.YtmdaggnfgghnfaaDoor.Pc.spec_wdLetters.l0]
    rw [if_neg (by omega), List.drop_eq_nil_of_le (by rw [size_len]; omega)]
    simp
  | succ j ih =>
    intro i k a b c hi hk h1 h2 h3 h4 h5 h6
    obtain ⟨k, rfl⟩ : ∃ q, k = q + 1 := ⟨k - 1, by omega⟩
    simp only [Go.Proofs.YtmdaggnfgghnfaaDoor.Pc.spec_wdLetters.l0]
    have hlt : i < s.data.toList.length := by rw [size_len]; omega
    have hok : okB s.data.toList[i] = true := List.all_eq_true.1 ha _ (List.getElem_mem hlt)
    rw [List.drop_eq_getElem_cons hlt]
    generalize hu : s.data.toList[i] = u at hok
    rw [if_pos (by omega), if_pos (by omega), bt_lt s i (by omega), hu, wrap_succ i (by omega)]
    have hc : u.toNat = 97 ∨ u.toNat = 98 ∨ u.toNat = 99 := by
      simp only [okB, Bool.and_eq_true, decide_eq_true_eq] at hok
      omega
    have e0 : ∀ x : Int, 0 ≤ x → x ≤ i → wrap64 (x + 1) = x + 1 := fun x _ _ => by unfold wrap64; omega
    rcases hc with hc | hc | hc
    · have : u = 97 := UInt8.toNat_inj.1 hc
      subst this
      rw [if_pos (by decide), if_pos (by simp)]
      have := ih (i + 1) k (a + 1) b c (by omega) (by omega) (by omega) (by omega) (by omega) (by omega) (by omega) (by omega)
      simp only [show (((97 : UInt8).toNat : Int) - 97) % 256 = 0 by decide, rd, List.getD, List.getElem?_cons_zero, Option.getD_some, Int.toNat_zero, List.set_cons_zero, e0 a h1 h4]
      rw [this]
      simp
      omega
    · have : u = 98 := UInt8.toNat_inj.1 hc
      subst this
      rw [if_pos (by decide), if_pos (by simp)]
      have := ih (i + 1) k a (b + 1) c (by omega) (by omega) (by omega) (by omega) (by omega) (by omega) (by omega) (by omega)
      simp only [show (((98 : UInt8).toNat : Int) - 97) % 256 = 1 by decide, rd, List.getD, show (1 : Int).toNat = 1 from rfl, List.getElem?_cons_succ, List.getElem?_cons_zero, Option.getD_some, List.set_cons_succ, List.set_cons_zero, e0 b h2 h5]
      rw [this]
      simp
      omega
    · have : u = 99 := UInt8.toNat_inj.1 hc
      subst this
      rw [if_pos (by decide), if_pos (by simp)]
      have := ih (i + 1) k a b (c + 1) (by omega) (by omega) (by omega) (by omega) (by omega) (by omega) (by omega) (by omega)
      simp only [show (((99 : UInt8).toNat : Int) - 97) % 256 = 2 by decide, rd, List.getD, show (2 : Int).toNat = 2 from rfl, List.getElem?_cons_succ, List.getElem?_cons_zero, Option.getD_some, List.set_cons_succ, List.set_cons_zero, e0 c h3 h6]
      rw [this]
      simp
      omega
theorem wdLetters_ev (s : ByteArray) (hl : s.size ≤ 1048576) (ha : abc s = true) : Ev (fun k => Go.Proofs.YtmdaggnfgghnfaaDoor.Pc.spec_wdLetters.f k s) (lets s) := by
  refine ev_ge s.size fun k hk => ?_
  unfold Go.Proofs.YtmdaggnfgghnfaaDoor.Pc.spec_wdLetters.f
  rw [if_pos (by decide)]
  have := wdLetters_loop s hl ha s.size 0 k 0 0 0 (by omega) (by omega) (by omega) (by omega) (by omega) (by omega) (by omega) (by omega)
  rw [List.drop_zero] at this
  simpa [lets, nums3] using this

theorem ext0 : (⟨#[97, 98, 99]⟩ : ByteArray).extract (0 : Int).toNat (1 : Int).toNat = ⟨#[97]⟩ := by decide
theorem ext1 : (⟨#[97, 98, 99]⟩ : ByteArray).extract (1 : Int).toNat (2 : Int).toNat = ⟨#[98]⟩ := by decide
theorem ext2 : (⟨#[97, 98, 99]⟩ : ByteArray).extract (2 : Int).toNat (3 : Int).toNat = ⟨#[99]⟩ := by decide
theorem lettersOf_eq (s : ByteArray) (k : Nat) : Go.Proofs.YtmdaggnfgghnfaaDoor.Pc.impl_lettersOf.f (k + 4) s = some (lets s) := by
  unfold Go.Proofs.YtmdaggnfgghnfaaDoor.Pc.impl_lettersOf.f
  have w1 : wrap64 (0 + 1) = 1 := by unfold wrap64; omega
  have w2 : wrap64 (1 + 1) = 2 := by unfold wrap64; omega
  have w3 : wrap64 (2 + 1) = 3 := by unfold wrap64; omega
  simp only [Go.Proofs.YtmdaggnfgghnfaaDoor.Pc.impl_lettersOf.l0, w1, w2, w3, ext0, ext1, ext2, Gs.strings_Count.f, Option.bind_some]
  simp [lets, nums3, Lib.countByte]
theorem lettersOf_ev (s : ByteArray) : Ev (fun k => Go.Proofs.YtmdaggnfgghnfaaDoor.Pc.impl_lettersOf.f k s) (lets s) := ⟨4, fun k hk => by
  obtain ⟨k, rfl⟩ : ∃ q, k = q + 4 := ⟨k - 4, by omega⟩
  exact lettersOf_eq s k⟩

theorem count_sum : ∀ l : List UInt8, l.all okB = true → l.count 97 + l.count 98 + l.count 99 = l.length
  | [], _ => rfl
  | u :: l, h => by
    simp only [List.all_cons, Bool.and_eq_true] at h
    have ih := count_sum l h.2
    have hc : u.toNat = 97 ∨ u.toNat = 98 ∨ u.toNat = 99 := by
      have := h.1
      simp only [okB, Bool.and_eq_true, decide_eq_true_eq] at this
      omega
    rcases hc with hc | hc | hc
    · have : u = 97 := UInt8.toNat_inj.1 hc
      subst this
      simp
      omega
    · have : u = 98 := UInt8.toNat_inj.1 hc
      subst this
      simp
      omega
    · have : u = 99 := UInt8.toNat_inj.1 hc
      subst this
      simp
      omega
theorem lets_sum (s : ByteArray) (h : abc s = true) : rd (lets s) 0 + rd (lets s) 1 + rd (lets s) 2 = s.size := by
  have := count_sum s.data.toList h
  rw [size_len] at this
  rw [show rd (lets s) 0 = (s.data.toList.count 97 : Int) from rfl, show rd (lets s) 1 = (s.data.toList.count 98 : Int) from rfl, show rd (lets s) 2 = (s.data.toList.count 99 : Int) from rfl]
  omega
theorem lets_nonneg (s : ByteArray) : 0 ≤ rd (lets s) 0 ∧ 0 ≤ rd (lets s) 1 ∧ 0 ≤ rd (lets s) 2 := by
  simp [lets, nums3, rd]
theorem short_of {l : List ByteArray} (h : Set l) {s : ByteArray} (hs : s ∈ l) : 1 ≤ s.size ∧ s.size ≤ 8 ∧ abc s = true := by
  obtain ⟨i, hi, rfl⟩ := List.getElem_of_mem hs
  have := h.2 i hi
  simp only [okAt, Bool.and_eq_true] at this
  have h1 := this.1
  rw [List.getD_eq_getElem?_getD, List.getElem?_eq_getElem hi] at h1
  simp only [Option.getD_some, shortB, Bool.and_eq_true, decide_eq_true_eq] at h1
  exact ⟨h1.1.1, h1.1.2, h1.2⟩
end Go.Proofs.YtmdaggnfgghnfaaDoor.Lets
