/- impl.sortedCounts: the rows of a row in their order. -/
import Derived.Test.YtmdaggnfgghnfaaDoorSortS
import Derived.Test.YtmdaggnfgghnfaaDoorSrtL
import Derived.Test.YtmdaggnfgghnfaaDoorWd
import Derived.Test.YtmdaggnfgghnfaaDoorPeM0
namespace Go.Proofs.YtmdaggnfgghnfaaDoor.SrtR
open Go Go.RowKit Go.Sort Go.Proofs.YtmdaggnfgghnfaaDoor Go.Proofs.YtmdaggnfgghnfaaDoorW.PrintWords Go.Proofs.YtmdaggnfgghnfaaDoorW.PrintLast Go.Proofs.YtmdaggnfgghnfaaDoorW.PrintMore Go.Proofs.YtmdaggnfgghnfaaDoor.SortS Go.Proofs.YtmdaggnfgghnfaaDoor.SrtL
set_option linter.unusedVariables false
set_option linter.unusedSimpArgs false

theorem cmp3 (a b : Int) : Go.Proofs.YtmdaggnfgghnfaaDoor.Pc.cmp_Compare_int.f a b = some (if a < b then -1 else if b < a then 1 else 0) := by
  unfold Go.Proofs.YtmdaggnfgghnfaaDoor.Pc.cmp_Compare_int.f
  unfold Go.Proofs.YtmdaggnfgghnfaaDoor.Pc.cmp_isNaN_int.f
  simp only [bne_self_eq_false, Option.bind_some, Bool.false_eq_true, if_false]
  by_cases h : a < b
  · simp [h]
  · by_cases h2 : b < a
    · simp [h, h2]
    · simp [h, h2]
theorem cmp_loop (l r : List Int) (hl : l.length ≤ 9223372036854775807) : ∀ (j i k : Nat), i + j = l.length → i ≤ r.length → j < k → Go.Proofs.YtmdaggnfgghnfaaDoor.Pe.slices_Compare_int_int.l0 k l r l (l.length : Int) (i : Int) = some (cmpL (l.drop i) (r.drop i)) := by
  intro j
  induction j with
  | zero =>
    intro i k hi hr hk
    obtain ⟨k, rfl⟩ : ∃ q, k = q + 1 := ⟨k - 1, by omega⟩
    simp only [Go.Proofs.YtmdaggnfgghnfaaDoor.Pe.slices_Compare_int_int.l0]
    rw [if_neg (by omega), List.drop_of_length_le (show l.length ≤ i by omega)]
    by_cases c : i < r.length
    · rw [if_pos (by omega), List.drop_eq_getElem_cons c]
      rfl
    · rw [if_neg (by omega), List.drop_of_length_le (show r.length ≤ i by omega)]
      rfl
  | succ j ih =>
    intro i k hi hr hk
    obtain ⟨k, rfl⟩ : ∃ q, k = q + 1 := ⟨k - 1, by omega⟩
    have hlt : i < l.length := by omega
    have hw : wrap64 ((i : Int) + 1) = ((i + 1 : Nat) : Int) := by unfold wrap64; omega
    simp only [Go.Proofs.YtmdaggnfgghnfaaDoor.Pe.slices_Compare_int_int.l0]
    rw [if_pos (by omega), if_pos (by omega), if_pos (by omega), List.drop_eq_getElem_cons hlt]
    by_cases c : i < r.length
    · rw [if_neg (by omega), if_pos (by omega), Wd.rd_lt l i hlt, Wd.rd_lt r i c, cmp3, Option.bind_some, List.drop_eq_getElem_cons c, cmpL]
      by_cases d : l[i] < r[i]
      · rw [if_pos d, if_neg (by decide), if_pos d]
      · by_cases e : r[i] < l[i]
        · rw [if_neg d, if_pos e, if_neg (by decide), if_neg d, if_pos e]
        · rw [if_neg d, if_neg e, if_pos rfl, if_neg d, if_neg e, hw]
          exact ih (i + 1) k (by omega) (by omega) (by omega)
    · rw [if_pos (by omega), List.drop_of_length_le (show r.length ≤ i by omega)]
      rfl
theorem cmp_some (l r : List Int) (hl : l.length ≤ 9223372036854775807) : Go.Proofs.YtmdaggnfgghnfaaDoor.Pe.slices_Compare_int_int.f (l.length + 1) l r = some (cmpL l r) := by
  unfold Go.Proofs.YtmdaggnfgghnfaaDoor.Pe.slices_Compare_int_int.f
  have := cmp_loop l r hl l.length 0 (l.length + 1) (by omega) (by omega) (by omega)
  rw [List.drop_zero, List.drop_zero] at this
  exact this

/-! ### the rows are sorted -/
/-- A row of numbers of one's own, that is not the row at block g; its blocks are those that f gives its number. -/
abbrev El (W : World) (base g : Nat) (f : Nat → Nat) : Type := { p : Value × List Int × Nat // (Kd.int .i64).R 3 W base (fun k => k ≠ g ∧ f k = p.2.2) p.1 p.2.1 }
instance (W : World) (base g : Nat) (f : Nat → Nat) : Inhabited (El W base g f) := ⟨⟨(.slice none 0 0, [], 0), Kd.R_nil _ _ _ _ _⟩⟩
section
variable {W : World} {base g : Nat} {f : Nat → Nat}
def encE (x : El W base g f) : Value := x.1.1
def lst (x : El W base g f) : List Int := x.1.2.1
def tg (x : El W base g f) : Nat := x.1.2.2
def cfE (x y : El W base g f) : Int := cmpL (lst x) (lst y)
theorem one_E : OneCell (encE (W := W) (base := base) (g := g) (f := f)) := fun x => by
  obtain ⟨A, c, h⟩ := Kd.R_slice x.2
  show (x.1.1).oneCell' = true
  rw [h]
  rfl
theorem lt_E (x y : El W base g f) : ltOf cfE x y = ltL (lst x) (lst y) := rfl
theorem swoE : SWO (ltOf (cfE (W := W) (base := base) (g := g) (f := f))) where
  irrefl a := by rw [lt_E]; exact ltL_irr _
  trans a b c h1 h2 := by rw [lt_E] at *; exact ltL_trans _ _ _ h1 h2
  ntrans a b c h1 h2 := by
    rw [lt_E] at *
    have := leL_trans (lst c) (lst b) (lst a) (by unfold leL; rw [h2]; rfl) (by unfold leL; rw [h1]; rfl)
    unfold leL at this
    simpa using this
/-- The elements of a row of rows. -/
theorem els_of {inner : List Value} {xs : List (List Int)} (i0 : Nat) (hl : inner.length = xs.length) (h : ∀ (j : Nat) (v : Value) (l : List Int), inner[j]? = some v → xs[j]? = some l → (Kd.int .i64).R 3 W base (fun k => k ≠ g ∧ f k = i0 + j) v l) : ∃ es : List (El W base g f), es.map encE = inner ∧ es.map lst = xs ∧ es.map tg = List.range' i0 xs.length := by
  induction inner generalizing xs i0 with
  | nil =>
    cases xs with
    | nil => exact ⟨[], rfl, rfl, rfl⟩
    | cons b xs => simp at hl
  | cons v inner ih =>
    cases xs with
    | nil => simp at hl
    | cons b xs =>
      obtain ⟨es, h1, h2, h3⟩ := ih (xs := xs) (i0 + 1) (by simpa using hl) (fun j v l hv hlx => by
        have := h (j + 1) v l (by simpa using hv) (by simpa using hlx)
        rwa [show i0 + (j + 1) = i0 + 1 + j by omega] at this)
      exact ⟨⟨(v, b, i0), h 0 v b rfl rfl⟩ :: es, by rw [List.map_cons, h1]; rfl, by rw [List.map_cons, h2]; rfl, by rw [List.map_cons, h3]; rfl⟩
theorem cmp_lays {n : Nat} : CmpLays1 Tryd.prog 113 #[] (encE (W := W) (base := base) (g := g) (f := f)) cfE g 0 n W := by
  intro m os dk _ x y
  obtain ⟨A, c, hx⟩ := Kd.R_slice x.2
  obtain ⟨B, c', hy⟩ := Kd.R_slice y.2
  have hgr := grown_put (enc := encE (W := W) (base := base) (g := g) (f := f)) (W := W) (q := m) (g := g) (os := os) dk
  have rx := Kd.R_grown x.2 hgr (fun k hk e => hk.1 (Option.some.inj e))
  have ry := Kd.R_grown y.2 hgr (fun k hk e => hk.1 (Option.some.inj e))
  rw [hx] at rx
  rw [hy] at ry
  obtain ⟨ex, ecx, cx⟩ := Kd.R_reads' rx
  obtain ⟨ey, ecy, cy⟩ := Kd.R_reads' ry
  have hlen : (lst x).length ≤ 9223372036854775807 := (Kd.reads_of_C (enc := Value.int .i64) (d := (0 : Int)) (h1 := fun _ => rfl) cx).2.1
  have := Go.Proofs.YtmdaggnfgghnfaaDoor.Pe.slices_Compare_int_int.calls ((lst x).length + 1) A c (lst x) B c' (lst y) (cmpL (lst x) (lst y)) (sortWorld encE W g 0 m dk os) cx ecx cy ecy (cmp_some _ _ hlen)
  have e1 : (#[encE x, encE y] ++ #[] : Array Value) = #[.slice A (lst x).length c, .slice B (lst y).length c'] := by
    show (#[x.1.1, y.1.1] ++ #[] : Array Value) = _
    rw [hx, hy]
    rfl
  rw [e1]
  refine this.mono ?_
  rintro e w' ⟨rfl, nd, rfl⟩
  exact ⟨rfl, nd, #[], by rw [grow_empty]⟩
end
theorem reps_zip {α β : Type} {R : β × Nat → List Value → Prop} (f : α → β) (enc : α → Value) (es : List α) (h : ∀ (j : Nat) (hj : j < es.length), R (f es[j], j) [enc es[j]]) : Reps R 1 (es.map f).zipIdx (es.map enc) := by
  refine ⟨by simp, fun j p hj => ?_⟩
  rw [Nat.mul_one]
  have hlt : j < es.length := by
    have := (List.getElem?_eq_some_iff.1 hj).1
    simpa using this
  have e1 : p = (f es[j], j) := by
    have := Kd.zip_at (xs := es.map f) (j := j) (p := f es[j]) (by rw [List.getElem?_map, List.getElem?_eq_getElem hlt]; rfl)
    rw [this] at hj
    exact (Option.some.inj hj).symm
  have e2 : ((es.map enc).drop j).take 1 = [enc es[j]] := by
    rw [List.drop_eq_getElem_cons (by simpa using hlt)]
    simp
  rw [e1, e2]
  exact h j hlt
theorem sort_rows {W : World} {base g n cap : Nat} {xs : List (List Int)} (h : Kd.S (Kd.slice 3 (Kd.int .i64)) 23 W base (fun _ => True) (.slice (some ⟨g, 0, none⟩) n cap) xs) (hsz : xs.length < 4611686018427387904) :
    Calls Tryd.prog 112 #[.slice (some ⟨g, 0, none⟩) xs.length cap, .func (.func 113) #[] #[]] W fun e w' => e = .returned (.tuple #[]) ∧ Kd.S (Kd.slice 3 (Kd.int .i64)) 23 w' base (fun _ => True) (.slice (some ⟨g, 0, none⟩) xs.length cap) (srtL xs) ∧ W.grownBy w' (some g) := by
  obtain ⟨hn, _, _⟩ := Kd.S_reads' h
  subst hn
  obtain ⟨f, _, inner, hown, hrep⟩ := h
  replace hown : W.ownsRow base 23 1 (.slice (some ⟨g, 0, none⟩) xs.length cap) xs.length inner := by
    have := hown
    rw [List.length_zipIdx] at this
    exact this
  replace hrep : Reps (fun (p : List Int × Nat) cs => ∃ v, cs = [v] ∧ (Kd.int .i64).R 3 W base (fun k => (True ∧ some k ≠ some g) ∧ f k = p.2) v p.1) 1 xs.zipIdx inner := hrep
  obtain ⟨es, h1, h2, h3⟩ := els_of (W := W) (base := base) (g := g) (f := f) (inner := inner) (xs := xs) 0 (by have := hrep.1; rwa [Nat.mul_one, List.length_zipIdx] at this) (fun j v l hv hl => by
    have := hrep.2 j (l, j) (Kd.zip_at hl)
    rw [Nat.mul_one] at this
    obtain ⟨v', hv', hr⟩ := this
    obtain ⟨hjl, hjv⟩ := List.getElem?_eq_some_iff.1 hv
    rw [List.drop_eq_getElem_cons hjl] at hv'
    have e : inner[j] = v' := by
      simp only [List.take_succ_cons, List.take_zero, List.cons.injEq, and_true] at hv'
      exact hv'
    rw [← hjv, e]
    exact Kd.R_mono hr (fun k hk => ⟨fun e => hk.1.2 (by rw [e]), by rw [hk.2, Nat.zero_add]⟩))
  subst h1 h2
  rw [List.length_map] at hown hsz h3 ⊢
  have hH := own_holds hown
  have hlt : g < W.heap.size := own_lt hown g rfl
  have hs := Tryd.slices_SortFunc_f112 encE one_E cfE swoE 113 #[] g 0 cap es.toArray W (enters_of Tryd.func113 (by kernel_rfl) rfl) cmp_lays hH hlt (by simpa using hsz)
  rw [List.size_toArray] at hs
  refine hs.mono ?_
  rintro e w' ⟨rfl, d', q, os, hperm, hsort, rfl⟩
  obtain ⟨p1, p2, p3⟩ := hperm
  have hd : d'.size = es.length := by simpa using p1
  have hp : d'.toList.Perm es := by
    have e1 : d'.extract 0 es.length = d' := by rw [← hd]; exact Array.extract_size
    have e2 : es.toArray.extract 0 es.length = es.toArray := by rw [← List.size_toArray]; exact Array.extract_size
    rw [e1, e2] at p3
    simpa using p3
  have hnd : (d'.toList.map tg).Nodup := by
    refine (hp.map tg).nodup_iff.2 ?_
    rw [h3]
    exact List.nodup_range'
  have hgr : W.grownBy (sortWorld encE W g 0 q d' os) (some g) := grown_put (enc := encE) d'
  have e5 : srtL (es.map lst) = d'.toList.map lst := (srtL_of (hp.map lst) (by
    rw [List.pairwise_map, List.pairwise_iff_getElem]
    intro i j hi hj hij
    have := hsort i j (Nat.zero_le _) hij (by simpa [hd] using hj)
    rw [lt_E] at this
    unfold leL
    have hi' : i < d'.size := by simpa using hi
    have hj' : j < d'.size := by simpa using hj
    rw [getElem!_pos d' i hi', getElem!_pos d' j hj'] at this
    simp only [Array.getElem_toList]
    rw [this]
    rfl)).symm
  refine ⟨rfl, ⟨fun k => (d'.toList.map tg).idxOf (f k), fun _ _ => trivial, d'.toList.map encE, ?_, ?_⟩, hgr⟩
  · have := put_own (q := q) (os := os) (ts := d'.toList) (m := es.length) hown (by simpa using hd) (Nat.le_refl _)
    have e3 : (srtL (es.map lst)).zipIdx.length = es.length := by rw [List.length_zipIdx, (srtL_perm _).length_eq, List.length_map]
    rw [e3]
    have e4 : d'.toList.take es.length = d'.toList := List.take_of_length_le (by simp [hd])
    rw [e4, Array.toArray_toList] at this
    exact this
  · rw [e5]
    refine reps_zip lst encE d'.toList fun j hj => ?_
    refine ⟨encE d'.toList[j], rfl, ?_⟩
    refine Kd.R_mono (Kd.R_grown d'.toList[j].2 hgr (fun k hk e => hk.1 (Option.some.inj e))) (fun k hk => ⟨⟨trivial, fun e => hk.1 (Option.some.inj e)⟩, ?_⟩)
    have e6 : f k = (d'.toList.map tg)[j]'(by simpa using hj) := by rw [hk.2, List.getElem_map]; rfl
    show (d'.toList.map tg).idxOf (f k) = j
    rw [e6]
    exact hnd.idxOf_getElem j (by simpa using hj)
end Go.Proofs.YtmdaggnfgghnfaaDoor.SrtR
