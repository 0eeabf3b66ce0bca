/- impl.mergeRun: all sums in the order in which they are put in. -/
import Derived.Test.YtmbkdapofcgccaaPr3
import Derived.Test.YtmbkdapofcgccaaSortI
namespace Go.Proofs.Ytmbkdapofcgccaa.MergeRun
open Go.RowKit Go.Proofs.YtmbkdapofcgccaaW.PrintWords Go.Proofs.YtmbkdapofcgccaaW.PrintLast Go.Proofs.YtmbkdapofcgccaaW.PrintMore
open Go.Proofs.Ytmbkdapofcgccaa.SortI (srt srt_length sort_Q)
set_option linter.unusedVariables false
set_option linter.unusedSimpArgs false

def mergeGo (m : Nat) : Nat → Nat → List Int → List Int
  | 0, _, _ => []
  | f + 1, take, list => if list.length ≤ 1 then [] else (list.take take).sum :: mergeGo m f m (srt (list.drop take ++ [(list.take take).sum]))
def mergeRunL (ws : List Int) (m : Nat) : List Int := mergeGo m ws.length (if m = 3 ∧ ws.length % 2 = 0 then 2 else m) (srt ws)

theorem srt_perm (xs : List Int) : (srt xs).Perm xs := List.mergeSort_perm xs _
theorem sum_perm {xs ys : List Int} (h : xs.Perm ys) : xs.sum = ys.sum := by
  induction h with
  | nil => rfl
  | cons a _ ih => simp [ih]
  | swap a b l => simp; omega
  | trans _ _ h1 h2 => rw [h1, h2]
theorem srt_sum (xs : List Int) : (srt xs).sum = xs.sum := sum_perm (srt_perm xs)
theorem srt_nonneg {xs : List Int} (h : ∀ x ∈ xs, 0 ≤ x) : ∀ x ∈ srt xs, 0 ≤ x := fun x hx => h x ((srt_perm xs).mem_iff.1 hx)
theorem sum_nonneg : ∀ {xs : List Int}, (∀ x ∈ xs, 0 ≤ x) → 0 ≤ xs.sum
  | [], _ => by simp
  | a :: l, h => by
    have := sum_nonneg (xs := l) (fun x hx => h x (by simp [hx]))
    have := h a (by simp)
    simp; omega
theorem sum_append (xs ys : List Int) : (xs ++ ys).sum = xs.sum + ys.sum := by
  induction xs with
  | nil => simp
  | cons a l ih => simp [ih]; omega
theorem sum_split (xs : List Int) (k : Nat) : (xs.take k).sum + (xs.drop k).sum = xs.sum := by
  rw [← sum_append, List.take_append_drop]
theorem sum_take_bd {xs : List Int} (h : ∀ x ∈ xs, 0 ≤ x) (k : Nat) : 0 ≤ (xs.take k).sum ∧ (xs.take k).sum ≤ xs.sum := by
  have h1 := sum_nonneg (xs := xs.take k) (fun x hx => h x (List.mem_of_mem_take hx))
  have h2 := sum_nonneg (xs := xs.drop k) (fun x hx => h x (List.mem_of_mem_drop hx))
  have := sum_split xs k
  omega
theorem sum_take_succ (xs : List Int) (k : Nat) (hk : k < xs.length) : (xs.take (k + 1)).sum = (xs.take k).sum + rd xs k := by
  rw [List.take_succ_eq_append_getElem hk, sum_append]
  simp [rd, List.getD_eq_getElem?_getD, List.getElem?_eq_getElem hk]
theorem le_sum {xs : List Int} (h : ∀ x ∈ xs, 0 ≤ x ∧ x ≤ 100) : xs.sum ≤ 100 * (xs.length : Int) := by
  induction xs with
  | nil => simp
  | cons a l ih =>
    have := ih (fun x hx => h x (by simp [hx]))
    have := h a (by simp)
    simp; omega

def lenOf : Value → Nat
  | .slice _ n _ => n
  | _ => 0

/-- What a round of the loop knows. -/
structure Rel (w wr : World) (m : Nat) (S : Int) (total : List Int) (v5 v6 : Value) (take : Nat) (list out : List Int) (f : Nat) : Prop where
  q : Kd.Q (Kd.int .i64) 3 wr w.heap.size (fun k => True ∧ some k ≠ v6.ownBlock) v5 list
  r : Kd.R (Kd.int .i64) 3 wr w.heap.size (fun _ => True) v6 out
  res : out ++ mergeGo m f take list = total
  fuel : list.length ≤ f
  nn : ∀ x ∈ list, 0 ≤ x
  sum : list.sum = S
  tk : 2 ≤ take ∧ take ≤ 3
  le : 1 < list.length → take ≤ list.length
  par : m = 3 → 1 < list.length → take = 3 → list.length % 2 = 1
  even : m = 3 → take = 2 → list.length % 2 = 0
  out_le : out.length + list.length ≤ 24
  pos : 0 < list.length
  bel : Below w.heap.size w wr

/-- impl.mergeRun, as it is told. -/
def impl_mergeRun.f (l0 : List Int) (a1 : Int) : Option (List Int) :=
  if (2 ≤ a1 ∧ a1 ≤ 3) ∧ (0 < l0.length ∧ l0.length ≤ 12) ∧ (∀ x ∈ l0, 0 ≤ x ∧ x ≤ 100) then some (mergeRunL l0 a1.toNat) else none

theorem ints_of_C {w : World} {A0 : Option Addr} {c0 : Nat} {l0 : List Int} (h : Kd.C (Kd.int .i64) w A0 l0.length l0) (hp : 0 < l0.length) :
    ∃ b o, A0 = some ⟨b, o, none⟩ ∧ b < w.heap.size ∧ ∀ j, j < l0.length → w.cell? ⟨b, o + j, none⟩ = some (.int .i64 (l0[j]?.getD 0)) := by
  obtain ⟨ad, e, h0⟩ := Kd.at_int h 0 (by omega) (by omega)
  have hadd : ad.add (0 : Int).toNat = ad := by simp [Addr.add]
  rw [hadd] at h0
  have hs : ad.spot = none := by
    unfold World.cell? at h0
    split at h0
    · split at h0
      · cases h0
      · cases hsp : ad.spot with
        | none => rfl
        | some k => simp [hsp] at *
    · cases h0
  obtain ⟨b, o, sp⟩ := ad
  simp only at hs
  subst hs
  refine ⟨b, o, e, World.block_lt_of_cell? w _ h0, fun j hj => ?_⟩
  obtain ⟨ad, e', hj'⟩ := Kd.at_int h (j : Int) (by omega) (by omega)
  rw [e] at e'
  injection e' with e'
  subst e'
  rw [Int.toNat_natCast] at hj'
  have : (⟨b, o, none⟩ : Addr).add j = ⟨b, o + j, none⟩ := by
    unfold Addr.add
    split
    · subst_vars; rfl
    · rfl
  rw [this] at hj'
  rw [hj']
  simp [rd, List.getD_eq_getElem?_getD]

theorem values_calls (a : Option Addr) (len cap : Nat) (w : World) :
    Calls Try.prog 39 #[.slice a len cap] w fun e w' => e = .returned (.func (.func 42) #[] #[.pointer (some ⟨w.heap.size, 0, none⟩)]) ∧ w.alloc (.cells #[.slice a len cap] 22) = w' := by
  go_enter Try.func39, Try.ntmps39
  go_wp2
  go_ret
  exact ⟨rfl, rfl⟩

theorem rel_next {w wr w5 : World} {m : Nat} {S : Int} {total : List Int} {v5 v6 v5' : Value} {k : Nat} {list out : List Int} {f : Nat} (hm : 2 ≤ m ∧ m ≤ 3) (h : Rel w wr m S total v5 v6 k list out f) (hlen : 1 < list.length)
    {v6' : Value} (hq : Kd.Q (Kd.int .i64) 3 w5 w.heap.size (fun k => True ∧ some k ≠ v6'.ownBlock) v5' (srt (list.drop k ++ [(list.take k).sum]))) (hr : Kd.R (Kd.int .i64) 3 w5 w.heap.size (fun _ => True) v6' (out ++ [(list.take k).sum])) (hb : Below w.heap.size w w5) :
    Rel w w5 m S total v5' v6' m (srt (list.drop k ++ [(list.take k).sum])) (out ++ [(list.take k).sum]) (f - 1) := by
  have hle := h.le hlen
  obtain ⟨h2, h3⟩ := h.tk
  have hl' : (srt (list.drop k ++ [(list.take k).sum])).length = list.length - k + 1 := by rw [srt_length]; simp
  have hf := h.fuel
  refine ⟨hq, hr, ?_, by rw [hl']; omega, srt_nonneg (fun x hx => ?_), ?_, hm, fun h1 => ?_, fun e1 h1 e2 => ?_, fun e1 e2 => by omega, ?_, by rw [hl']; omega, hb⟩
  · rw [← h.res]
    obtain ⟨f', rfl⟩ : ∃ f', f = f' + 1 := ⟨f - 1, by omega⟩
    conv => rhs; rw [mergeGo, if_neg (by omega)]
    simp
  · rcases List.mem_append.1 hx with hx | hx
    · exact h.nn x (List.mem_of_mem_drop hx)
    · rw [List.mem_singleton.1 hx]; exact (sum_take_bd h.nn k).1
  · rw [srt_sum, sum_append, ← h.sum, ← sum_split list k]
    simp
    omega
  · rw [hl'] at h1 ⊢
    by_cases e : m = 3
    · rcases (by omega : k = 2 ∨ k = 3) with e' | e'
      · have := h.even e e'; omega
      · have := h.par e hlen e'; omega
    · omega
  · rw [hl'] at h1 ⊢
    rcases (by omega : k = 2 ∨ k = 3) with e' | e'
    · have := h.even e1 e'; omega
    · have := h.par e1 hlen e'; omega
  · rw [hl']
    have := h.out_le
    simp
    omega
theorem R_empty (W : World) (base : Nat) (hb : base ≤ W.heap.size) : Kd.R (Kd.int .i64) 3 (W.alloc (.cells #[] 3)) base (fun _ => True) (.slice (some ⟨W.heap.size, 0, none⟩) 0 0) [] :=
  ⟨fun _ _ => trivial, [], (by have h2 := World.ownsRow_lit (base := base) (e := 3) (size := (Kd.int .i64).sz) W #[] 0 hb (by simp [maxLen]) (by simp); simpa using h2), Kd.reps_scalar []⟩
theorem rel_first {w w1 : World} {m take0 : Nat} {l0 : List Int} {g c : Nat} (hm : 2 ≤ m ∧ m ≤ 3) (hl : 0 < l0.length ∧ l0.length ≤ 12) (ht : (m = 3 ∧ l0.length % 2 = 0 ∧ take0 = 2) ∨ (m = 3 ∧ l0.length % 2 = 1 ∧ take0 = 3) ∨ (m = 2 ∧ take0 = 2)) (hws : ∀ x ∈ l0, 0 ≤ x ∧ x ≤ 100)
    (hq : Kd.Q (Kd.int .i64) 3 w1 w.heap.size (fun _ => True) (.slice (some ⟨g, 0, none⟩) l0.length c) (srt l0)) (hb : Below w.heap.size w w1) :
    Rel w (w1.alloc (.cells #[] 3)) m l0.sum (mergeGo m l0.length take0 (srt l0)) (.slice (some ⟨g, 0, none⟩) l0.length c) (.slice (some ⟨w1.heap.size, 0, none⟩) 0 0) take0 (srt l0) [] l0.length := by
  refine ⟨?_, R_empty w1 _ hb.size, by simp, by rw [srt_length]; omega, srt_nonneg (fun x hx => (hws x hx).1), srt_sum l0, by omega, fun h1 => ?_, fun e1 h1 e2 => ?_, fun e1 e2 => ?_, by simp [srt_length]; omega, by rw [srt_length]; omega, hb.alloc hb.size _⟩
  · refine Kd.Q_alloc (Kd.Q_mono (Kd.Q_bound hq) (fun k hk => ⟨trivial, fun e => ?_⟩)) _
    have : w1.heap.size = k := by simpa [Value.ownBlock] using e.symm
    have := hk.2.2.1
    omega
  · rw [srt_length] at h1 ⊢; omega
  · rw [srt_length] at h1 ⊢; omega
  · rw [srt_length]; omega
theorem drop_eq {w : World} {base g1 o1 n cc k : Nat} {ok : Nat → Prop} {xs : List Int} (h : Kd.Q (Kd.int .i64) 3 w base ok (.slice (some ⟨g1, o1, none⟩) n cc) xs) (hk : k ≤ xs.length) (hc : cc = k) :
    Kd.Q (Kd.int .i64) 3 w base ok (.slice (some ⟨g1, o1, none⟩) (n - k) 0) (xs.drop k) := by
  have hq := Kd.Q_drop h hk
  rw [if_pos hc, hc, Nat.sub_self] at hq
  exact hq
theorem drop_ne {w : World} {base g1 o1 n cc k : Nat} {ok : Nat → Prop} {xs : List Int} (h : Kd.Q (Kd.int .i64) 3 w base ok (.slice (some ⟨g1, o1, none⟩) n cc) xs) (hk : k ≤ xs.length) (hc : ¬ cc = k) :
    Kd.Q (Kd.int .i64) 3 w base ok (.slice (some ⟨g1, o1 + k, none⟩) (n - k) (cc - k)) (xs.drop k) := by
  have hq := Kd.Q_drop h hk
  rw [if_neg hc] at hq
  have : (some (⟨g1, o1, none⟩ : Addr)).map (·.add (k * (Kd.int .i64).sz)) = some ⟨g1, o1 + k, none⟩ := by
    have : (Kd.int .i64).sz = 1 := rfl
    rw [this, Nat.mul_one, Option.map_some]
    unfold Addr.add
    split
    · subst_vars; rfl
    · rfl
  rw [this] at hq
  exact hq

set_option maxHeartbeats 8000000 in
set_option maxRecDepth 100000 in
theorem mergeRun_any (m take0 : Nat) (c0 : Nat) (l0 : List Int) (w : World) (b o : Nat) (hm : 2 ≤ m ∧ m ≤ 3) (hl : 0 < l0.length ∧ l0.length ≤ 12) (hws : ∀ x ∈ l0, 0 ≤ x ∧ x ≤ 100)
    (hI : IterI.Ints w.heap.size w (.slice (some ⟨b, o, none⟩) l0.length c0) l0)
    (ht : (m = 3 ∧ l0.length % 2 = 0 ∧ take0 = 2) ∨ (m = 3 ∧ l0.length % 2 = 1 ∧ take0 = 3) ∨ (m = 2 ∧ take0 = 2)) :
    Calls Try.prog 35 #[.slice (some ⟨b, o, none⟩) l0.length c0, .int .i64 m] w fun e w' => ∃ v0_ : Value, e = .returned (v0_) ∧ Kd.R (Kd.int .i64) 3 w' w.heap.size (fun _ => True) v0_ (mergeGo m l0.length take0 (srt l0)) ∧ Below w.heap.size w w' := by
  have HI := Aside0.mk hI; clear hI
  have HWS := Aside0.mk hws; clear hws
  have HT := Aside0.mk ht
  have hne : l0 ≠ [] := by intro e; subst e; simp at hl
  have HNE := Aside0.mk hne; clear hne
  have t1 : ((m : Int) == 3) = true ∧ (((l0.length : Int) % 2) == 0) = true ∨ ((m : Int) == 3) = true ∧ (((l0.length : Int) % 2) == 0) = false ∨ ((m : Int) == 3) = false := by
    simp only [beq_iff_eq, beq_eq_false_iff_ne, ne_eq]; omega
  clear ht
  rcases t1 with ⟨t1, t2⟩ | ⟨t1, t2⟩ | t1
  all_goals
    go_enter Try.func35, Try.ntmps35
    go_wp2_with (first
      | (go_at_call 39; refine (values_calls _ _ _ _).mono ?_; rintro e w' ⟨rfl, rfl⟩)
      | (go_at_call 38; refine (SortI.sorted_calls w.heap.size (.slice (some ⟨b, o, none⟩) l0.length c0) l0 HNE.out (by omega) _ (by simp) (blk_cell (blk_new w _) 0) ?hi).mono ?_; (case hi => exact (HI.out.below ((Below.refl _ w).alloc (Nat.le_refl _) _)).mono (by simp)); rintro e w1 ⟨g, c, rfl, hq, hb⟩; have HQ := Aside0.mk hq; have HB := Aside0.mk hb; clear hq hb))
    go_loopw [5, 6, 7] (fun v5 v6 v7 wr => ∃ (take f : Nat) (list out : List Int) (A : Option Addr) (cc : Nat), v7 = .int .i64 (take : Int) ∧ v5 = .slice A list.length cc ∧ Aside0 (Rel w wr m l0.sum (mergeGo m l0.length take0 (srt l0)) v5 v6 take list out f)) (fun v5 _ _ _ => lenOf v5)
    case atStart =>
      refine ⟨take0, l0.length, srt l0, [], _, _, by rcases HT.out with h | h | h <;> simp [*] at * <;> omega, by rw [srt_length], ⟨rel_first hm hl HT.out HWS.out ?_ ?_⟩⟩
      · exact Kd.Q_lower HQ.out (by simp)
      · exact ((Below.refl _ w).alloc (Nat.le_refl _) _).trans (HB.out.mono (by simp))
    case round =>
      obtain ⟨take, f, list, out, A, cc, rfl, rfl, HREL⟩ := hrel
      clear HQ HB
      obtain ⟨wo, ewo⟩ : ∃ wo : World, wo = wr := ⟨_, rfl⟩
      subst ewo
      by_cases hlen : 1 < list.length
      · have d1 : ((list.length : Int) > 1) = True := by simp; omega
        have hle := HREL.out.le hlen
        obtain ⟨htk1, htk2⟩ := HREL.out.tk
        obtain ⟨g1, o1, cap1, e1, hg1, hg2, cells1, hb1⟩ := Kd.Q_form HREL.out.q (by omega)
        injection e1 with ea en ec
        subst ea ec
        have hcap : take ≤ cc ∧ list.length ≤ cc := by have := (Kd.Q_reads' HREL.out.q).2.1; omega
        go_wp2
        have hS : l0.sum ≤ 1200 := by
          have := le_sum HWS.out
          omega
        have hnn := HREL.out.nn
        have hsm := HREL.out.sum
        have NN := Aside0.mk hnn; clear hnn
        have SM := Aside0.mk hsm; clear hsm
        have HS := Aside0.mk hS; clear hS
        go_loop [8, 31] (fun v8 v31 => ∃ k : Nat, k ≤ take ∧ v31 = .int .i64 (k : Int) ∧ v8 = .int .i64 ((list.take k).sum)) (fun _ v31 => take - (intOf v31).toNat)
        case atStart => exact ⟨0, by omega, rfl, by simp⟩
        case round =>
          obtain ⟨k, hk, rfl, rfl⟩ := hrel
          by_cases hkt : k < take
          · have hc := (Kd.Q_cell 0 HREL.out.q (k : Int) (by omega) (by omega)).1
            rw [Int.toNat_natCast] at hc
            have hc' : wo.cell? ⟨g1, o1 + k, none⟩ = some (.int .i64 (rd list k)) := hc
            clear hc
            have b1 := sum_take_bd NN.out k
            have b2 := sum_take_bd NN.out (k + 1)
            have b3 := sum_take_succ list k (by omega)
            have bs : 0 ≤ (list.take k).sum ∧ (list.take k).sum ≤ 1200 ∧ 0 ≤ (list.take k).sum + rd list k ∧ (list.take k).sum + rd list k ≤ 1200 := by have := SM.out; have := HS.out; omega
            have B3 := Aside0.mk b3
            clear b1 b2 b3
            obtain ⟨bs1, bs2, bs3, bs4⟩ := bs
            go_wp2
            go_round
            case rel => exact ⟨k + 1, by omega, by go_num, by rw [B3.out]⟩
            case measure => simp [intOf]; omega
          · obtain rfl : k = take := by omega
            have hol : (out.length + 1) * 8 ≤ 140737488355328 := by have := HREL.out.out_le; omega
            have hsz := HREL.out.bel.size
            have HSZ := Aside0.mk hsz; clear hsz
            have hll : list.length ≤ 24 := by have := HREL.out.out_le; omega
            by_cases hcc : cc = k
            all_goals
              go_wp2_with (first
                | (go_at_call 40; (refine (sort_Q HQ4.out hln (by omega) (by omega)).mono ?_; rintro e w5 ⟨rfl, hq5, hg5⟩; have HREL2 := Aside0.mk (rel_next hm HREL.out hlen hq5 (Kd.R_grown1 HR4.out rfl hg5 (HQ4.out.1 g5 rfl).2) (HB4.out.grown hg5 HB4.out.size (fun k hk => by cases hk; exact hgb5))); clear hq5 hg5))
                | (at_builtin; refine Kd.R_append (Kd.int .i64) (w0 := w) w.heap.size rfl (.tmp 39) (.tmp 41) 22 3 (.int .i64 0) 8 rfl Try.underlying22 Go.Proofs.Ytmbkdapofcgccaa.Pr.info3 rfl (by decide) (by decide) u6 out (list.take k).sum [.int .i64 (list.take k).sum] (fun _ => True) (fun _ => False) rfl rfl rfl (fun _ h => h.elim) (fun _ _ => trivial) HREL.out.r HREL.out.bel HSZ.out hol ?_; intro v61 w3 hr3 hb3 hg3 hat3; have HQ3 := Aside0.mk (Kd.Q_after HREL.out.q hg3 hat3); have HR3 := Aside0.mk hr3; have HB3 := Aside0.mk hb3; clear hr3 hb3 hg3 hat3)
                | (at_builtin; refine Kd.Q_append (Kd.int .i64) (w0 := w) w.heap.size rfl (.tmp 45) (.tmp 47) 22 3 (.int .i64 0) 8 rfl Try.underlying22 Go.Proofs.Ytmbkdapofcgccaa.Pr.info3 rfl (by decide) (by decide) _ (list.drop k) (list.take k).sum [.int .i64 (list.take k).sum] (fun k => True ∧ some k ≠ v61.ownBlock) (fun _ => False) rfl rfl rfl (fun _ h => h.elim) ?hfr ?hod HB3.out HB3.out.size (by rw [List.length_drop]; omega) ?_
                   (case hod => first | exact drop_eq HQ3.out hle hcc | exact drop_ne HQ3.out hle hcc)
                   (case hfr => exact fun j hj => ⟨trivial, fun e => absurd (Kd.R_lt HR3.out j e.symm) (by omega)⟩)
                   (intro v48 w4 hq4 hb4 hg4 hat4)
                   (obtain ⟨g5, o5, cap5, rfl, hgb5, -, -⟩ := Kd.Q_form hq4 (by simp))
                   (have hln : (list.drop k ++ [(list.take k).sum]).length = list.length - k + 1 := by simp)
                   (rw [hln] at hq4)
                   (have HQ4 := Aside0.mk hq4; have HB4 := Aside0.mk hb4)
                   (have HR4 := Aside0.mk (Kd.R_grown1 HR3.out rfl hg4 (HQ3.out.1 g1 rfl).2))
                   (clear hq4 hb4 hg4 hat4)))
              go_round
              case rel => exact ⟨m, f - 1, _, _, _, _, rfl, by rw [srt_length, hln], HREL2⟩
              case measure => simp [lenOf]; omega
      · have hone : list.length = 1 := by have := HREL.out.pos; omega
        go_wp2
        go_ret
        have hr := HREL.out.r
        have he : out = mergeGo m l0.length take0 (srt l0) := by
          have := HREL.out.res
          cases f with
          | zero => simpa [mergeGo] using this
          | succ f => simpa [mergeGo, hone] using this
        rw [he] at hr
        exact ⟨_, rfl, hr, HREL.out.bel⟩

set_option maxHeartbeats 8000000 in
set_option maxRecDepth 100000 in
theorem impl_mergeRun.calls (A0 : Option Addr) (c0 : Nat) (l0 : List Int) (a1 : Int) (r : List Int) (w : World) (hr0 : Kd.C (Kd.int .i64) w A0 l0.length l0) (hc0 : l0.length ≤ c0) (h : impl_mergeRun.f l0 a1 = some r) :
    Calls Try.prog 35 #[.slice A0 l0.length c0, .int .i64 a1] w fun e w' => ∃ v0_ : Value, e = .returned (v0_) ∧ Kd.R (Kd.int .i64) 3 w' w.heap.size (fun _ => True) v0_ r ∧ Below w.heap.size w w' := by
  unfold impl_mergeRun.f at h
  split at h
  case isFalse => cases h
  rename_i hd
  obtain ⟨hm, hl, hws⟩ := hd
  injection h with h
  have HR := Aside0.mk h; clear h
  have HWS := Aside0.mk hws; clear hws
  obtain ⟨b, o, rfl, hbl, hcells⟩ := ints_of_C (c0 := c0) hr0 hl.1
  have HI : Aside0 (IterI.Ints w.heap.size w (.slice (some ⟨b, o, none⟩) l0.length c0) l0) := ⟨.inr ⟨b, o, c0, rfl, hbl, hcells⟩⟩
  clear hcells hr0
  obtain ⟨m, rfl⟩ : ∃ m : Nat, a1 = m := ⟨a1.toNat, by omega⟩
  have e : mergeGo m l0.length (if m = 3 ∧ l0.length % 2 = 0 then 2 else m) (srt l0) = r := by have := HR.out; simpa [mergeRunL] using this
  rw [← e]
  refine mergeRun_any m _ c0 l0 w b o (by omega) hl HWS.out HI.out ?_
  split <;> omega

end Go.Proofs.Ytmbkdapofcgccaa.MergeRun
