/- impl.compareWords, with what it leaves of the world; the order of words. -/
import Derived.Test.YtmdaggnfgghnfaaDoorWset
import Derived.Test.YtmdaggnfgghnfaaDoorPcM0
import Derived.Shelf.SlSortCmp.Kit1
namespace Go.Proofs.YtmdaggnfgghnfaaDoor.CmpWords
open Go.RowKit Go.Lib Go.Sort Go.Proofs.YtmdaggnfgghnfaaDoorW.PrintWords Go.Proofs.YtmdaggnfgghnfaaDoorW.PrintLast Go.Proofs.YtmdaggnfgghnfaaDoorW.PrintMore Go.Proofs.YtmdaggnfgghnfaaDoor.Wd Go.Proofs.YtmdaggnfgghnfaaDoor.Wset
set_option linter.unusedVariables false
set_option linter.unusedSimpArgs false

theorem worlds (W : World) (o : Obj) (a b c : Nat) : (((W.drewN a).drewN b).alloc o).drewN c = grow (W.drewN (a + b + c)) #[o] := by
  rw [alloc_eq_grow]
  simp [World.drewN, grow, Nat.add_assoc]
theorem worlds2 (W : World) (o : Obj) (a c : Nat) : ((W.drewN a).alloc o).drewN c = grow (W.drewN (a + c)) #[o] := by
  rw [alloc_eq_grow]
  simp [World.drewN, grow, Nat.add_assoc]
theorem ints_new (W : World) (x y : Int) (t : TypeId) : Kd.C (Kd.int .i64) (W.alloc (.cells #[.int .i64 x, .int .i64 y] t)) (some ⟨W.heap.size, 0, none⟩) 2 [x, y] := by
  refine Kd.C_of_reads (enc := Value.int .i64) (d := (0 : Int)) (h1 := fun _ => rfl) ⟨rfl, by omega, fun _ => ⟨_, rfl, fun j hj => ?_⟩⟩
  have hb := blk_new W (.cells #[.int .i64 x, .int .i64 y] t)
  rcases (by omega : j = 0 ∨ j = 1) with rfl | rfl
  · exact blk_cell hb 0
  · exact blk_cell hb 1
set_option maxHeartbeats 1000000 in
set_option maxRecDepth 100000 in
theorem cw_calls (a b : ByteArray) (W : World) : Calls Tryd.prog 64 #[.string a, .string b] W fun e w' => e = .returned (.int .i64 (cmpW a b)) ∧ ∃ q os', w' = grow (W.drewN q) os' := by
  have h1 : Aside0 (Go.Proofs.YtmdaggnfgghnfaaDoor.Pc.cmp_Compare_int.f (a.size : Int) (b.size : Int) = some (if (a.size : Int) < b.size then -1 else if (b.size : Int) < a.size then 1 else 0)) := ⟨cmpInt_eq _ _⟩
  generalize hx : (if (a.size : Int) < b.size then (-1 : Int) else if (b.size : Int) < a.size then 1 else 0) = x at h1
  have HX := Aside0.mk hx; clear hx
  have h2 : Aside0 (Gs.strings_Compare.f a b = some (Lib.compareBytes a.data.toList b.data.toList)) := ⟨rfl⟩
  generalize hy : Lib.compareBytes a.data.toList b.data.toList = y at h2
  have HY := Aside0.mk hy; clear hy
  have h3 : Aside0 (Go.Proofs.YtmdaggnfgghnfaaDoor.Pc.cmp_Or_int.f 3 [x, y] = some (if x = 0 then y else x)) := ⟨or_loop x y 0⟩
  have he : (if x = 0 then y else x) = cmpW a b := by
    rw [← HX.out, ← HY.out]
    unfold cmpW
    by_cases h1 : a.size < b.size
    · rw [if_pos h1, if_pos (show (a.size : Int) < b.size by omega)]; rfl
    · rw [if_neg h1, if_neg (show ¬ (a.size : Int) < b.size by omega)]
      by_cases h2 : b.size < a.size
      · rw [if_pos h2, if_pos (show (b.size : Int) < a.size by omega)]; rfl
      · rw [if_neg h2, if_neg (show ¬ (b.size : Int) < a.size by omega)]; rfl
  rw [he] at h3
  clear he
  go_enter Tryd.func64, Tryd.ntmps64
  go_wp2_with (first
    | (go_at_call 104; (with_reducible refine (Go.Proofs.YtmdaggnfgghnfaaDoor.Pc.cmp_Compare_int.calls _ _ x _ h1.out).mono ?_); rintro e w1 ⟨rfl, ⟨n1, rfl⟩⟩)
    | (go_at_call 105; (with_reducible refine (Gs.strings_Compare.calls a b y _ h2.out).mono ?_); rintro e w2 ⟨rfl, ⟨n2, rfl⟩⟩)
    | (go_at_call 103; refine (Go.Proofs.YtmdaggnfgghnfaaDoor.Pc.cmp_Or_int.calls 3 _ _ [x, y] _ _ (ints_new _ x y _) (Nat.le_refl _) h3.out).mono ?_; rintro e w3 ⟨rfl, ⟨n3, rfl⟩⟩))
  go_ret
  exact ⟨rfl, _, _, worlds2 _ _ _ _⟩

/-! ### the order -/
theorem ltB_irr (a : ByteArray) : ltB a a = false := by
  have := cmpW_lt a a
  have e := (cmpW_eq a a).2 rfl
  cases h : ltB a a with
  | false => rfl
  | true => have := this.2 h; omega
theorem bl_trans : ∀ x y z : List UInt8, Op.bytesLess x y = true → Op.bytesLess y z = true → Op.bytesLess x z = true := by
  intro x y z h1 h2
  rw [bytesLess_eq] at *
  simp only [decide_eq_true_eq] at *
  exact List.lt_trans h1 h2
theorem bl_tri : ∀ x y : List UInt8, Op.bytesLess x y = true ∨ x = y ∨ Op.bytesLess y x = true
  | [], [] => .inr (.inl rfl)
  | [], _ :: _ => .inl rfl
  | _ :: _, [] => .inr (.inr rfl)
  | a :: x, b :: y => by
    unfold Op.bytesLess
    by_cases h1 : a < b
    · left; simp [h1]
    · by_cases h2 : b < a
      · right; right; simp [h2]
      · have e : a = b := UInt8.le_antisymm (UInt8.not_lt.1 h2) (UInt8.not_lt.1 h1)
        subst e
        rcases bl_tri x y with h | h | h
        · left; simp [h]
        · right; left; rw [h]
        · right; right; simp [h]
theorem ltB_trans (a b c : ByteArray) (h1 : ltB a b = true) (h2 : ltB b c = true) : ltB a c = true := by
  simp only [ltB, Bool.or_eq_true, Bool.and_eq_true, decide_eq_true_eq] at *
  rcases h1 with h1 | ⟨e1, h1⟩
  · left; rcases h2 with h2 | ⟨e2, h2⟩ <;> omega
  · rcases h2 with h2 | ⟨e2, h2⟩
    · left; omega
    · right; exact ⟨by omega, bl_trans _ _ _ h1 h2⟩
/-- Of two words one is less, or they are one. -/
theorem ltB_tri (a b : ByteArray) : ltB a b = true ∨ a = b ∨ ltB b a = true := by
  have h1 := cmpW_lt a b
  have h2 := cmpW_eq a b
  by_cases e1 : cmpW a b < 0
  · exact .inl (h1.1 e1)
  · by_cases e2 : cmpW a b = 0
    · exact .inr (.inl (h2.1 e2))
    · right; right
      unfold cmpW at e1 e2
      by_cases s1 : a.size < b.size
      · simp [s1] at e1
      · by_cases s2 : b.size < a.size
        · simp [ltB, s2]
        · simp only [s1, s2, if_false] at e1 e2
          have hs : b.size = a.size := by omega
          simp only [ltB, hs, decide_true, Bool.true_and, Bool.or_eq_true]
          right
          rcases bl_tri a.data.toList b.data.toList with h | h | h
          · exact absurd ((cmpB_lt _ _).2 h) e1
          · exact absurd ((cmpB_eq _ _).2 h) e2
          · exact h
theorem ltOf_eq (a b : ByteArray) : ltOf cmpW a b = ltB a b := by
  unfold ltOf
  have := cmpW_lt a b
  cases h : ltB a b with
  | true => exact decide_eq_true (this.2 h)
  | false => exact decide_eq_false fun hh => by rw [this.1 hh] at h; cases h
theorem swo : SWO (ltOf cmpW) where
  irrefl a := by rw [ltOf_eq]; exact ltB_irr a
  trans a b c h1 h2 := by rw [ltOf_eq] at *; exact ltB_trans a b c h1 h2
  ntrans a b c h1 h2 := by
    rw [ltOf_eq] at *
    cases h : ltB a c with
    | false => rfl
    | true =>
      rcases ltB_tri a b with h3 | h3 | h3
      · rw [h1] at h3; cases h3
      · subst h3; rw [h2] at h; cases h
      · have := ltB_trans b a c h3 h
        rw [h2] at this; cases this
end Go.Proofs.YtmdaggnfgghnfaaDoor.CmpWords
