/- impl.ordered: words in order, each once. -/
import Derived.Test.YtmdaggnfgghnfaaDoorCmpWords
import Derived.Test.YtmdaggnfgghnfaaDoorIterS
import Derived.Test.YtmdaggnfgghnfaaDoorShelf
namespace Go.Proofs.YtmdaggnfgghnfaaDoor.SortS
open Go.RowKit Go.Lib Go.Sort Go.Proofs.YtmdaggnfgghnfaaDoorW.PrintWords Go.Proofs.YtmdaggnfgghnfaaDoorW.PrintLast Go.Proofs.YtmdaggnfgghnfaaDoorW.PrintMore Go.Proofs.YtmdaggnfgghnfaaDoor.Wd Go.Proofs.YtmdaggnfgghnfaaDoor.Wset Go.Proofs.YtmdaggnfgghnfaaDoor.CmpWords
set_option linter.unusedVariables false
set_option linter.unusedSimpArgs false

section
variable {α : Type} [Inhabited α] {enc : α → Value} {W : World} {base g n cap q m : Nat} {e : TypeId} {xs ts : List α} {os : Array Obj}
theorem own_holds (h : W.ownsRow base e 1 (.slice (some ⟨g, 0, none⟩) n cap) xs.length (xs.map enc)) : Holds enc W g 0 xs.toArray := by
  obtain ⟨hl, hr⟩ := h
  rcases hr with ⟨h0, _⟩ | ⟨g', cap', cur, hv, hb, hh, h1, h2, h3, h4⟩
  · cases h0
  injection hv with ha hn hc
  injection ha with ha
  injection ha with hg
  subst hg hc
  rw [Nat.mul_one] at h3 h4
  intro j hj
  have hj' : j < xs.length := by simpa using hj
  refine ⟨?_, by simp [World.frozen?, hh]⟩
  have e1 : (cur.toList.take xs.length)[j]? = (xs.map enc)[j]? := by rw [h4]
  rw [List.getElem?_take_of_lt hj'] at e1
  simp only [World.cell?, hh, Nat.zero_add]
  simp only [Option.isSome_none, Bool.false_eq_true, if_false]
  rw [← Array.getElem?_toList, e1]
  simp [hj']
theorem heap_put (d : Array α) {cur : Array Value} {fr : Nat × Nat} (hb : W.heap[g]? = some (.cells cur e fr)) :
    (grow (putRow enc (Sort.ahead W q) g 0 d) os).heap[g]? = some (.cells (putCells enc 0 d cur) e fr) := by
  have hg : g < W.heap.size := (Array.getElem?_eq_some_iff.1 hb).1
  rw [heap_grow_old _ _ (by simpa using hg)]
  simp [putRow, mapBlock, Sort.ahead, Array.getElem?_modify, hb, onCells]
theorem grown_put (d : Array α) : W.grownBy (grow (putRow enc (Sort.ahead W q) g 0 d) os) (some g) := by
  refine ⟨rfl, rfl, rfl, by simp, fun k hk hne => ?_⟩
  rw [heap_grow_old _ _ (by simpa using hk)]
  have : g ≠ k := fun e => hne (by rw [e])
  simp [putRow, mapBlock, Sort.ahead, Array.getElem?_modify, this]
theorem take_put (cur : Array Value) (ts : List α) (m : Nat) (hm : m ≤ ts.length) (h : ts.length ≤ cur.size) : (putCells enc 0 ts.toArray cur).toList.take m = (ts.take m).map enc := by
  apply List.ext_getElem?
  intro j
  by_cases hj : j < m
  · rw [List.getElem?_take_of_lt hj, Array.getElem?_toList]
    have h1 : j < cur.size := by omega
    have h2 : j < ts.length := by omega
    simp [putCells, hj, h1, h2]
  · rw [List.getElem?_take_eq_none (by omega), List.getElem?_eq_none (by simp; omega)]
theorem put_own (h : W.ownsRow base e 1 (.slice (some ⟨g, 0, none⟩) xs.length cap) xs.length (xs.map enc)) (hl : ts.length = xs.length) (hm : m ≤ xs.length) :
    (grow (putRow enc (Sort.ahead W q) g 0 ts.toArray) os).ownsRow base e 1 (.slice (some ⟨g, 0, none⟩) m cap) m ((ts.take m).map enc) := by
  obtain ⟨h0, hr⟩ := h
  rcases hr with ⟨h0, _⟩ | ⟨g', cap', cur, hv, hb, hh, h1, h2, h3, h4⟩
  · cases h0
  injection hv with ha hn hc
  injection ha with ha
  injection ha with hg
  subst hg hc
  refine ⟨by simp; omega, .inr ⟨g, cap, _, rfl, hb, heap_put _ hh, by omega, h2, ?_, ?_⟩⟩
  · simpa [putCells] using h3
  · rw [Nat.mul_one]
    exact take_put cur ts m (by omega) (by omega)
end

theorem one_string : OneCell Value.string := fun _ => rfl
/-- Words in order. -/
def srtW (l : List ByteArray) : List ByteArray := l.mergeSort fun x y => !(ltOf cmpW) y x
theorem srtW_length (l : List ByteArray) : (srtW l).length = l.length := by simp [srtW]
/-- Words in order, of like ones the first. -/
def ordW (l : List ByteArray) : List ByteArray := Lib.compact (srtW l)
theorem eqs : (fun x y : ByteArray => x.toList == y.toList) = fun x y => decide (x = y) := by
  funext x y
  rw [ByteArray.toList_eq, ByteArray.toList_eq]
  by_cases h : x = y
  · subst h; simp
  · have : ¬ x.data.toList = y.data.toList := fun e => h (Go.WideShapes.bytes_inj e)
    rw [decide_eq_false h]
    exact beq_false_of_ne this
theorem compact_le {α : Type} [Inhabited α] [DecidableEq α] (l : List α) : (Lib.compact l).length ≤ l.length := by
  unfold Lib.compact Lib.compactUpTo
  rw [List.length_map]
  have := List.length_filter_le (Lib.keeps l.toArray) (List.range l.length)
  rw [List.length_range] at this
  exact this
theorem ordW_le (l : List ByteArray) : (ordW l).length ≤ l.length := by
  have := compact_le (srtW l)
  rw [srtW_length] at this
  exact this

theorem cpt_own {W : World} {base g cap : Nat} {xs : List ByteArray} (h : W.ownsRow base 9 1 (.slice (some ⟨g, 0, none⟩) xs.length cap) xs.length (xs.map Value.string)) (hlen : xs.length ≤ 9223372036854775807) :
    Calls Tryd.prog 126 #[.slice (some ⟨g, 0, none⟩) xs.length cap] W fun e w' => e = .returned (.slice (some ⟨g, 0, none⟩) (Lib.compact xs).length cap) ∧ w'.ownsRow base 9 1 (.slice (some ⟨g, 0, none⟩) (Lib.compact xs).length cap) (Lib.compact xs).length ((Lib.compact xs).map Value.string) ∧ W.grownBy w' (some g) := by
  have hH := own_holds h
  have hcap : xs.length ≤ cap := by
    rcases h.2 with ⟨h0, _⟩ | ⟨g', cap', cur, hv, hb, hh, h1, _⟩
    · cases h0
    · injection hv with _ _ hc
      omega
  have he := EqlAt.string Tryd.prog 9
  have hn := NeqAt.string Tryd.prog 9
  rw [eqs] at he hn
  have hs := Tryd.slices_Compact Value.string one_string he hn ByteArray.empty (fun w => by kernel_rfl) g 0 cap xs.toArray W hH (by simpa using hlen) (by simpa using hcap)
  simp only [List.size_toArray] at hs
  have hcl := compact_le xs
  refine hs.mono ?_
  rintro e w' ⟨rfl, q, rfl⟩
  have e1 : putRow Value.string (Sort.ahead W q) g 0 (Lib.compact xs ++ List.replicate (xs.length - (Lib.compact xs).length) ByteArray.empty).toArray = grow (putRow Value.string (Sort.ahead W q) g 0 (Lib.compact xs ++ List.replicate (xs.length - (Lib.compact xs).length) ByteArray.empty).toArray) #[] := (grow_empty _).symm
  refine ⟨rfl, ?_, ?_⟩
  · show (putRow Value.string (Sort.ahead W q) g 0 (Lib.compact xs ++ List.replicate (xs.length - (Lib.compact xs).length) ByteArray.empty).toArray).ownsRow _ _ _ _ _ _
    rw [e1]
    have := put_own (q := q) (os := #[]) (ts := Lib.compact xs ++ List.replicate (xs.length - (Lib.compact xs).length) ByteArray.empty) (m := (Lib.compact xs).length) h (by simp; omega) hcl
    rwa [List.take_left'] at this
    rfl
  · show W.grownBy (putRow Value.string (Sort.ahead W q) g 0 (Lib.compact xs ++ List.replicate (xs.length - (Lib.compact xs).length) ByteArray.empty).toArray) _
    rw [e1]
    exact grown_put _

theorem sort_own {W : World} {base g cap : Nat} {xs : List ByteArray} (h : W.ownsRow base 9 1 (.slice (some ⟨g, 0, none⟩) xs.length cap) xs.length (xs.map Value.string)) (hlen : xs.length < 4611686018427387904) :
    Calls Tryd.prog 152 #[.slice (some ⟨g, 0, none⟩) xs.length cap, .func (.func 64) #[] #[]] W fun e w' => e = .returned (.tuple #[]) ∧ w'.ownsRow base 9 1 (.slice (some ⟨g, 0, none⟩) (srtW xs).length cap) (srtW xs).length ((srtW xs).map Value.string) ∧ W.grownBy w' (some g) := by
  have hH := own_holds h
  obtain ⟨cur, hcur⟩ : ∃ cur, W.heap[g]? = some (.cells cur 9 (0, 0)) := by
    rcases h.2 with ⟨h0, _⟩ | ⟨g', cap', cur, hv, hb, hh, _⟩
    · cases h0
    · injection hv with ha
      injection ha with ha
      injection ha with hg
      subst hg
      exact ⟨cur, hh⟩
  have hT : ∀ x y : ByteArray, (ltOf cmpW) x y = false → (ltOf cmpW) y x = false → x = y := by
    intro x y h1 h2
    rw [ltOf_eq] at h1 h2
    rcases ltB_tri x y with h | h | h
    · rw [h1] at h; cases h
    · exact h
    · rw [h2] at h; cases h
  have hs := Tryd.slices_SortFunc_total_f152 Value.string one_string cmpW swo 64 #[] g 0 cap xs.toArray W (enters_of Tryd.func64 (by kernel_rfl) rfl)
    (fun mm os dk hsz x y => cw_calls x y _) hH (Array.getElem?_eq_some_iff.1 hcur).1 (by simpa using hlen) hT
  simp only [List.size_toArray, List.toList_toArray] at hs
  refine hs.mono ?_
  rintro e w' ⟨rfl, nn, os, rfl⟩
  refine ⟨rfl, ?_, grown_put _⟩
  have := put_own (q := nn) (os := os) (ts := srtW xs) (m := xs.length) h (srtW_length xs) (Nat.le_refl _)
  rw [List.take_of_length_le (by rw [srtW_length]; exact Nat.le_refl _)] at this
  rw [srtW_length]
  exact this
theorem values_calls (a : Option Addr) (len cap : Nat) (w : World) :
    Calls Tryd.prog 125 #[.slice a len cap] w fun e w' => e = .returned (.func (.func 153) #[] #[.pointer (some ⟨w.heap.size, 0, none⟩)]) ∧ w.alloc (.cells #[.slice a len cap] 22) = w' := by
  go_enter Tryd.func125, Tryd.ntmps125
  go_wp2
  go_ret
  exact ⟨rfl, rfl⟩
theorem R_of_own {W : World} {base : Nat} {v : Value} {zs : List ByteArray} (h : W.ownsRow base 9 1 v zs.length (zs.map Value.string)) : Kd.R Kd.string 9 W base (fun _ => True) v zs :=
  ⟨fun _ _ => trivial, zs.map Value.string, h, Kd.reps_scalar zs⟩
theorem srt_nil : srtW [] = [] := List.length_eq_zero_iff.1 (srtW_length [])
theorem ord_nil : ordW [] = [] := by unfold ordW; rw [srt_nil]; rfl
theorem own_form {W : World} {base : Nat} {v : Value} {zs : List ByteArray} (h : W.ownsRow base 9 1 v zs.length (zs.map Value.string)) (hnil : v = .slice none 0 0 ↔ zs = []) (hz : zs ≠ []) : ∃ g cap, v = .slice (some ⟨g, 0, none⟩) zs.length cap ∧ base ≤ g ∧ g < W.heap.size := by
  rcases h.2 with ⟨h0, _⟩ | ⟨g, cap, cur, hv, hb, hh, _⟩
  · exact absurd (hnil.1 h0) hz
  · exact ⟨g, cap, hv, hb, (Array.getElem?_eq_some_iff.1 hh).1⟩

set_option maxHeartbeats 1000000 in
theorem sorted_calls (Bs : Nat) (sv : Value) (zs : List ByteArray) (hbytes : zs.length * 16 ≤ 140737488355328) (w : World) (hBs : Bs < w.heap.size) (hc0 : w.cell? ⟨Bs, 0, none⟩ = some sv) (hI : IterS.Strs w.heap.size w sv zs) :
    Calls Tryd.prog 124 #[.func (.func 153) #[] #[.pointer (some ⟨Bs, 0, none⟩)], .func (.func 64) #[] #[]] w fun e w' => ∃ v, e = .returned v ∧ w'.ownsRow w.heap.size 9 1 v (srtW zs).length ((srtW zs).map Value.string) ∧ (v = .slice none 0 0 ↔ srtW zs = []) ∧ Below w.heap.size w w' := by
  have HI := Aside0.mk hI; clear hI
  by_cases hz : zs = []
  · subst hz
    go_enter Tryd.func124, Tryd.ntmps124
    go_wp2_with (first
      | (go_at_call 151; refine (IterS.collect Bs sv [] hbytes w hBs hc0 HI.out).mono ?_; rintro e w1 ⟨v, rfl, hrow, hnil, hb⟩; obtain rfl : v = .slice none 0 0 := hnil.2 rfl; have HB := Aside0.mk hb; clear hrow hnil hb)
      | (go_at_call 152; refine (Tryd.slices_SortFunc_none_f152 (α := ByteArray) none 0 _ _).mono ?_; rintro e w2 ⟨rfl, rfl⟩))
    go_ret
    refine ⟨.slice none 0 0, rfl, ?_, ?_, HB.out⟩
    · rw [srt_nil]; exact World.ownsRow_nil _ _ _ _
    · rw [srt_nil]; simp
  · have HZ := Aside0.mk hz; clear hz
    have HL : Aside0 (zs.length < 4611686018427387904) := ⟨by omega⟩
    go_enter Tryd.func124, Tryd.ntmps124
    go_wp2_with (first
      | (go_at_call 151; refine (IterS.collect Bs sv zs hbytes w hBs hc0 HI.out).mono ?_; rintro e w1 ⟨v, rfl, hrow, hnil, hb⟩; obtain ⟨g, c, rfl, hgb, hgl⟩ := own_form hrow hnil HZ.out; have HQ := Aside0.mk hrow; have HB := Aside0.mk hb; clear hrow hnil hb)
      | (go_at_call 152; refine (sort_own HQ.out HL.out).mono ?_; rintro e w2 ⟨rfl, hq2, hg2⟩; have HQ2 := Aside0.mk hq2; have HG2 := Aside0.mk hg2; clear hq2 hg2))
    go_ret
    refine ⟨_, rfl, by rw [srtW_length]; have := HQ2.out; rw [srtW_length] at this; exact this, ?_, HB.out.grown HG2.out HB.out.size (fun k hk => by cases hk; exact hgb)⟩
    constructor
    · intro h; cases h
    · intro h
      have h2 := srtW_length zs
      rw [h] at h2
      exact absurd (List.length_eq_zero_iff.1 h2.symm) HZ.out

def impl_ordered.f (l0 : List ByteArray) : Option (List ByteArray) := if l0.length ≤ 8000000000000 then some (ordW l0) else none
theorem strs_of_C {w : World} {A0 : Option Addr} {l0 : List ByteArray} (c : Nat) (h : Kd.C Kd.string w A0 l0.length l0) : IterS.Strs w.heap.size w (.slice A0 l0.length c) l0 := by
  by_cases hz : l0 = []
  · subst hz; exact .inl ⟨A0, c, rfl, rfl⟩
  · right
    have hpos : 0 < l0.length := List.length_pos_iff.2 hz
    obtain ⟨ad, e, hc⟩ := h.2.2 hpos
    have h0 := Kd.at_string h 0 (by omega) (by omega)
    obtain ⟨ad', e', h0⟩ := h0
    rw [e] at e'
    injection e' with e'
    subst e'
    have hs : ad.spot = none := by
      have hadd : ad.add (0 : Int).toNat = ad := by simp [Addr.add]
      rw [hadd] at h0
      unfold World.cell? at h0
      split at h0
      · split at h0
        · cases h0
        · cases hsp : ad.spot with
          | none => rfl
          | some k => simp [hsp] at *
      · cases h0
    obtain ⟨b, o, sp⟩ := ad
    simp only at hs
    subst hs
    refine ⟨b, o, c, by rw [e], ?_, fun j hj => ?_⟩
    · have hadd : (⟨b, o, none⟩ : Addr).add (0 : Int).toNat = ⟨b, o, none⟩ := by simp [Addr.add]
      rw [hadd] at h0
      exact World.block_lt_of_cell? w _ h0
    · obtain ⟨ad2, e2, hj2⟩ := Kd.at_string h (j : Int) (by omega) (by omega)
      rw [e] at e2
      injection e2 with e2
      subst e2
      rw [Int.toNat_natCast] at hj2
      have : (⟨b, o, none⟩ : Addr).add j = ⟨b, o + j, none⟩ := by
        unfold Addr.add
        split
        · subst_vars; rfl
        · rfl
      rw [this] at hj2
      rw [hj2]
      simp [rdOf, List.getD_eq_getElem?_getD]

set_option maxHeartbeats 1000000 in
theorem impl_ordered.calls (A0 : Option Addr) (c0 : Nat) (l0 : List ByteArray) (r : List ByteArray) (w : World) (hr0 : Kd.C Kd.string w A0 l0.length l0) (hc0 : l0.length ≤ c0) (h : impl_ordered.f l0 = some r) :
    Calls Tryd.prog 90 #[.slice A0 l0.length c0] w fun e w' => ∃ v0_ : Value, e = .returned (v0_) ∧ Kd.R Kd.string 9 w' w.heap.size (fun _ => True) v0_ r ∧ Below w.heap.size w w' := by
  unfold impl_ordered.f at h
  split at h
  case isFalse => cases h
  rename_i hd
  injection h with h
  subst h
  have hb1 : Below w.heap.size w (w.alloc (.cells #[.slice A0 l0.length c0] 22)) := (Below.refl _ w).alloc (Nat.le_refl _) _
  have HI := Aside0.mk (IterS.Strs.below hb1 (strs_of_C c0 hr0))
  have HB1 := Aside0.mk hb1; clear hb1
  clear hr0
  by_cases hz : l0 = []
  · subst hz
    go_enter Tryd.func90, Tryd.ntmps90
    go_wp2_with (first
      | (go_at_call 125; refine (values_calls _ _ _ _).mono ?_; rintro e w' ⟨rfl, rfl⟩)
      | (go_at_call 124; refine (sorted_calls w.heap.size (.slice A0 0 c0) [] (by simp) _ (by simp) (by simp) (HI.out.mono (by simp))).mono ?_; rintro e w2 ⟨v, rfl, hrow, hnil, hb2⟩; obtain rfl : v = .slice none 0 0 := hnil.2 srt_nil; have HB2 := Aside0.mk hb2; clear hrow hnil hb2)
      | (go_at_call 126; refine (Tryd.slices_Compact_string_empty none 0 _).mono ?_; rintro e w3 ⟨rfl, rfl⟩))
    go_ret
    exact ⟨.slice none 0 0, rfl, by rw [ord_nil]; exact Kd.R_nil _ _ _ _ _, HB1.out.trans (HB2.out.mono (by simp))⟩
  · have HZ := Aside0.mk hz; clear hz
    have HL : Aside0 ((srtW l0).length ≤ 9223372036854775807) := ⟨by rw [srtW_length]; omega⟩
    have HL2 : Aside0 (l0.length * 16 ≤ 140737488355328) := ⟨by omega⟩
    go_enter Tryd.func90, Tryd.ntmps90
    go_wp2_with (first
      | (go_at_call 125; refine (values_calls _ _ _ _).mono ?_; rintro e w' ⟨rfl, rfl⟩)
      | (go_at_call 124; refine (sorted_calls w.heap.size (.slice A0 l0.length c0) l0 HL2.out _ (by simp) (by simp) (HI.out.mono (by simp))).mono ?_; rintro e w2 ⟨v, rfl, hrow, hnil, hb2⟩; obtain ⟨g, c, rfl, hgb, hgl⟩ := own_form hrow hnil (fun h => HZ.out (List.length_eq_zero_iff.1 (by rw [← srtW_length, h]; rfl))); have HQ := Aside0.mk hrow; have HB2 := Aside0.mk hb2; clear hrow hnil hb2)
      | (go_at_call 126; refine (cpt_own HQ.out HL.out).mono ?_; rintro e w3 ⟨rfl, hq3, hg3⟩; have HQ3 := Aside0.mk hq3; have HG3 := Aside0.mk hg3; clear hq3 hg3))
    go_ret
    refine ⟨_, rfl, Kd.R_lower (R_of_own HQ3.out) (by simp), ?_⟩
    have hbb : Below w.heap.size w w2 := HB1.out.trans (HB2.out.mono (by simp))
    have hle : w.heap.size ≤ g := by
      have : w.heap.size + 1 ≤ g := by simpa using hgb
      omega
    exact hbb.grown HG3.out hbb.size (fun k hk => (Option.some.inj hk) ▸ hle)
end Go.Proofs.YtmdaggnfgghnfaaDoor.SortS
