/- impl.allBest's closure: all lengths that fit and cost what is due are put to what it has, in lexicographic order: the rounds. -/
import Derived.Test.YtmbkdapofcgccaaAddCl
namespace Go.Proofs.Ytmbkdapofcgccaa.AddRec
open Go.RowKit Go.Proofs.YtmbkdapofcgccaaW.PrintWords Go.Proofs.YtmbkdapofcgccaaW.PrintLast Go.Proofs.YtmbkdapofcgccaaW.PrintMore Go.Proofs.Ytmbkdapofcgccaa.AddPush Go.Proofs.Ytmbkdapofcgccaa.AddCl
open Go.Proofs.Ytmbkdapofcgccaa.BeTry (pow_bd)
set_option linter.unusedVariables false
set_option linter.unusedSimpArgs false

/-- The power, as the program reckons it. -/
theorem power_eq (m : Int) (hm : 2 ≤ m ∧ m ≤ 3) (n : Nat) (hn : n ≤ 11) : Go.Proofs.Ytmbkdapofcgccaa.Pr.impl_power.f 12 m n = some (m ^ n) := by
  have key : ∀ (j k : Nat) (x y : Int), j ≤ 11 → j < k → y + j = n → 0 ≤ y → 0 ≤ x → x * m ^ j ≤ 177147 → Go.Proofs.Ytmbkdapofcgccaa.Pr.impl_power.l0 k m x n y = some (x * m ^ j) := by
    intro j
    induction j with
    | zero =>
      intro k x y _ hk hy _ _ _
      obtain ⟨k, rfl⟩ : ∃ q, k = q + 1 := ⟨k - 1, by omega⟩
      simp only [Go.Proofs.Ytmbkdapofcgccaa.Pr.impl_power.l0]
      rw [if_neg (by omega)]
      simp
    | succ j ih =>
      intro k x y hj hk hy h0 hx hb
      obtain ⟨k, rfl⟩ : ∃ q, k = q + 1 := ⟨k - 1, by omega⟩
      have e1 : x * m ^ (j + 1) = x * m * m ^ j := by rw [Int.pow_succ]; rw [Int.mul_comm (m ^ j) m, Int.mul_assoc]
      have hp : 1 ≤ m ^ j := Int.pow_pos (by omega)
      have hxm : 0 ≤ x * m := Int.mul_nonneg hx (by omega)
      have hb2 : x * m ≤ 177147 := by
        rw [e1] at hb
        have := Int.mul_le_mul_of_nonneg_left hp hxm
        omega
      have w1 : wrap64 (y + 1) = y + 1 := by unfold wrap64; omega
      have w2 : wrap64 (x * m) = x * m := by unfold wrap64; omega
      simp only [Go.Proofs.Ytmbkdapofcgccaa.Pr.impl_power.l0]
      rw [if_pos (by omega), w1, w2, ih k (x * m) (y + 1) (by omega) (by omega) (by omega) (by omega) hxm (by rw [← e1]; exact hb), e1]
  have := key n 12 1 0 hn (by omega) (by omega) (by omega) (by omega) (by have := pow_bd m hm n hn; omega)
  simpa [Go.Proofs.Ytmbkdapofcgccaa.Pr.impl_power.f] using this

section
variable {w0 : World} {gW gD gO gM gA : Nat} {WA : Option Addr} {wc : Nat} {ws : List Int} {due m : Int} {X : Nat → Prop} {g cap g' cap' : Nat} {l : List Int} {ov : Value} {outs : List (List Int)} {W W' W2 : World} {y : Int}
theorem _root_.Go.Proofs.Ytmbkdapofcgccaa.AddCl.Env.three {ad : Addr} {j : Nat} {x : Int} (h : Env w0 gW gD gO gM gA (some ad) wc ws due m W) (hc : w0.cell? (ad.add j) = some (.int .i64 x)) :
    W.cell? ⟨gW, 0, none⟩ = some (.slice (some ad) ws.length wc) ∧ W.cell? (ad.add j) = some (.int .i64 x) ∧
    W.cell? ⟨gA, 0, none⟩ = some (.func (.func 26) #[] #[.pointer (some ⟨gW, 0, none⟩), .pointer (some ⟨gD, 0, none⟩), .pointer (some ⟨gO, 0, none⟩), .pointer (some ⟨gM, 0, none⟩), .pointer (some ⟨gA, 0, none⟩)]) :=
  ⟨h.cells.1, pw_cell_below h.bel hc, h.cells.2.2.2⟩

/-- What may turn while the done row is g' for a time. -/
def XX (X : Nat → Prop) (g g' : Nat) (k : Nat) : Prop := X k ∧ (g' = g ∨ k ≠ g)

theorem push_st (h : St w0 gW gD gO gM gA WA wc ws due m X g cap l ov outs W) (hO : Own W2 w0.heap.size g' cap' (l ++ [y])) (ha : Aft W W2 g cap g' cap') : St w0 gW gD gO gM gA WA wc ws due m (XX X g g') g' cap' (l ++ [y]) ov outs W2 := by
  obtain ⟨f1, f2, f3, f4, f5⟩ := h.far
  obtain ⟨l1, l2, l3, l4⟩ := h.env.lts
  have lO := h.ltO
  have hgb := h.own.parts
  obtain ⟨_, hgb, _⟩ := hgb
  have hb0 := h.env.bel.size
  have hfar : Far gW gD gO gM gA g' := by
    rcases ha.at_ with ⟨e, _⟩ | ⟨e, _⟩
    · rw [e]; exact h.far
    · exact ⟨by omega, by omega, by omega, by omega, by omega⟩
  refine ⟨h.env.move (fun k hk => ha.kept k ?_ ?_) ?_, (ha.kept gO lO (Ne.symm f3)).trans h.out, ?_, hO, hfar⟩
  · rcases hk with rfl | rfl | rfl | rfl <;> assumption
  · rcases hk with rfl | rfl | rfl | rfl <;> (apply Ne.symm; assumption)
  · exact h.env.bel.trans ⟨ha.os, ha.tape, ha.output, ha.size, fun k hk => ha.kept k (by omega) (by omega)⟩
  · refine Kd.S_mono (Kd.S_step (Kd.S_bound h.rows) (fun k hk hlt => ha.kept k hlt hk.1.2)) (fun k hk => ⟨⟨hk.1.1.1, hk.1.1.2, .inr hk.1.2⟩, ?_⟩)
    rcases ha.at_ with ⟨e, _⟩ | ⟨e, _⟩
    · rw [e]; exact hk.1.2
    · have := hk.2.2.1
      omega

theorem push_fresh (hX : ∀ k, W.heap.size ≤ k → X k) (h : Own W w0.heap.size g cap l) (hs : W.heap.size ≤ W2.heap.size) : ∀ k, W2.heap.size ≤ k → XX X g g' k := by
  intro k hk
  have := h.lt
  exact ⟨hX k (by omega), .inr (by omega)⟩

theorem push_back {res : List (List Int)} {e : Ending} (h : St w0 gW gD gO gM gA WA wc ws due m X g cap l ov outs W) (ha : Aft W W2 g cap g' cap') (hp : AddPost w0 gW gD gO gM gA WA wc ws due m res (XX X g g') g' cap' (l ++ [y]) outs W2 e W') :
    e = .returned (.tuple #[]) ∧ ∃ ov', St w0 gW gD gO gM gA WA wc ws due m X g cap l ov' (outs ++ res) W' ∧ Kept W W' (fun k => k = gO ∨ k = g ∨ X k) := by
  obtain ⟨rfl, ov', hs, hk⟩ := hp
  refine ⟨rfl, ov', ⟨hs.env, hs.out, Kd.S_mono hs.rows (fun k hk => ⟨⟨hk.1.1, hk.1.2.1⟩, ?_⟩), ?_, h.far⟩, ?_⟩
  · rcases hk.1.2.2 with e | e
    · rw [← e]; exact hk.2
    · exact e
  · rcases ha.at_ with ⟨e1, e2⟩ | ⟨e1, e2⟩
    · subst e1 e2
      exact hs.own.front
    · refine h.own.move ((hk.2 g (Nat.lt_of_lt_of_le h.own.lt ha.size) ?_).trans e2)
      have := h.own.lt
      rintro (h1 | h1 | ⟨_, h1 | h1⟩)
      · exact h.far.2.2.1 h1
      · omega
      · omega
      · exact h1 rfl
  · refine Kept.then_ (S := fun k => k = gO ∨ k = g ∨ X k) (⟨ha.size, fun k hk hn => ha.kept k hk (fun e => hn (.inr (.inl e)))⟩) hk (fun k hk => ?_)
    rcases hk with h1 | h1 | h1
    · exact .inl (.inl h1)
    · rcases ha.at_ with ⟨e, _⟩ | ⟨e, _⟩
      · exact .inl (.inr (.inl (h1.trans e)))
      · exact .inr (by omega)
    · exact .inl (.inr (.inr h1.1))
end

/-- Between the rounds. -/
structure Mid (w0 : World) (gW gD gO gM gA : Nat) (WA : Option Addr) (wc : Nat) (ws : List Int) (due m : Int) (X : Nat → Prop) (g cap : Nat) (l : List Int) (outs : List (List Int)) (w wr : World) : Prop where
  st : ∃ ov, St w0 gW gD gO gM gA WA wc ws due m X g cap l ov outs wr
  kept : Kept w wr (fun k => k = gO ∨ k = g ∨ X k)

set_option maxHeartbeats 4000000 in
set_option maxRecDepth 100000 in
theorem add_calls (w0 : World) (gW gD gO gM gA : Nat) (WA : Option Addr) (wc : Nat) (ws : List Int) (due m : Int) (hm : 2 ≤ m ∧ m ≤ 3) (hws : ∀ x ∈ ws, 0 ≤ x ∧ x ≤ 100) (hwl : ws.length ≤ 6) (hdue : 0 ≤ due ∧ due ≤ 1000000000)
    (hOX : gO ≠ gW ∧ gO ≠ gD ∧ gO ≠ gM ∧ gO ≠ gA) (hbase : w0.heap.size ≤ gO) (hC0 : Kd.C (Kd.int .i64) w0 WA ws.length ws) (d : Nat) :
    ∀ (X : Nat → Prop) (g cap : Nat) (l : List Int) (cost left : Int) (ov : Value) (outs : List (List Int)) (w : World), l.length + d = ws.length → 0 ≤ cost ∧ cost ≤ 1000000000 → 0 ≤ left ∧ left ≤ 1000000 →
    (∀ k, w.heap.size ≤ k → X k) → St w0 gW gD gO gM gA WA wc ws due m X g cap l ov outs w → outs.length + 11 ^ d ≤ 50000000 →
    Calls Try.prog 26 #[.slice (some ⟨g, 0, none⟩) l.length cap, .int .i64 cost, .int .i64 left, .pointer (some ⟨gW, 0, none⟩), .pointer (some ⟨gD, 0, none⟩), .pointer (some ⟨gO, 0, none⟩), .pointer (some ⟨gM, 0, none⟩), .pointer (some ⟨gA, 0, none⟩)] w (AddPost w0 gW gD gO gM gA WA wc ws due m (addAll m due (ws.drop l.length) l cost left) X g cap l outs w) := by
  induction d with
  | zero =>
    intro X g cap l cost left ov outs w hd hco hle hX hS ho
    rw [List.drop_eq_nil_of_le (by omega)]
    simp only [addAll]
    exact add_full w0 gW gD gO gM gA WA wc ws due m hOX hbase X g cap l cost left ov outs w (by omega) (by omega) hX hS (by omega)
  | succ d ih =>
    intro X g cap l cost left ov outs w hd hco hle hX hS ho
    have hx : ws.drop l.length = rd ws l.length :: ws.drop (l.length + 1) := by
      rw [List.drop_eq_getElem_cons (by omega)]
      congr 1
      simp [rd, List.getD_eq_getElem?_getD, List.getElem?_eq_getElem (show l.length < ws.length by omega)]
    have hxw : 0 ≤ rd ws l.length ∧ rd ws l.length ≤ 100 := by
      have : rd ws l.length = ws[l.length]'(by omega) := by simp [rd, List.getD_eq_getElem?_getD, List.getElem?_eq_getElem (show l.length < ws.length by omega)]
      rw [this]
      exact hws _ (List.getElem_mem _)
    have hrest : (ws.drop (l.length + 1)).length = d := by simp; omega
    obtain ⟨ad, ea, hcell⟩ := Kd.at_int hC0 l.length (by omega) (by omega)
    subst ea
    rw [Int.toNat_natCast] at hcell
    rw [hx]
    simp only [addAll]
    show Calls _ _ _ _ (AddPost w0 gW gD gO gM gA (some ad) wc ws due m (prt m due (rd ws l.length) (ws.drop (l.length + 1)) l cost left 11) X g cap l outs w)
    have HX := Aside0.mk hX; clear hX
    have HRS := Aside0.mk hrest; clear hrest
    have HD := Aside0.mk hd; clear hd
    have hlt : l.length < ws.length := by have := HD.out; omega
    have h3' : ((l.length : Int) == (ws.length : Int)) = false := by simp; omega
    obtain ⟨cW, cD, cM, cA⟩ := hS.env.cells
    have HS := Aside0.mk hS; clear hS
    have HWS := Aside0.mk hws; clear hws
    have HC := Aside0.mk hcell; clear hcell hC0
    have HOX := Aside0.mk hOX; clear hOX
    have HBS := Aside0.mk hbase; clear hbase
    have HO := Aside0.mk ho; clear ho
    have HXE := Aside0.mk hx; clear hx
    have IH := Aside0.mk ih; clear ih
    go_enter Try.func26, Try.ntmps26
    go_wp2_with fail
    clear cW cD cM cA
    go_loopw [12, 13] (fun v12 v13 wr => ∃ i : Nat, i ≤ 11 ∧ v12 = .int .i64 ((i : Int) + 1) ∧ Aside0 (Mid w0 gW gD gO gM gA (some ad) wc ws due m X g cap l (outs ++ prt m due (rd ws l.length) (ws.drop (l.length + 1)) l cost left i) w wr)) (fun v12 _ _ => 12 - (intOf v12).toNat)
    case atStart => exact ⟨0, by omega, rfl, ⟨⟨⟨ov, by simpa [prt] using HS.out⟩, Kept.refl _ _⟩⟩⟩
    case round =>
      obtain ⟨i, hi, rfl, HM⟩ := hrel
      obtain ⟨⟨ov2, hs⟩, hk⟩ := HM.out
      obtain ⟨cW, cD, cM, cA⟩ := hs.env.cells
      have cX := (hs.env.three HC.out).2.1
      have HSR := Aside0.mk hs; clear hs
      have HK := Aside0.mk hk; clear hk
      by_cases hlast : i = 11
      · subst hlast
        go_wp2
        go_quiet (fail)
        go_wp2
        go_end0
        exact ⟨rfl, ov2, HSR.out.drewN _, HK.out.drewN _⟩
      · have hile : (i : Int) + 1 ≤ 11 := by omega
        have hmul : 0 ≤ rd ws l.length * ((i : Int) + 1) ∧ rd ws l.length * ((i : Int) + 1) ≤ 1100 := by
          have := Int.mul_le_mul hxw.2 (show (i : Int) + 1 ≤ 11 by omega) (by omega) (by omega)
          exact ⟨Int.mul_nonneg hxw.1 (by omega), by omega⟩
        have W1 : IntKind.i64.wrap (rd ws l.length * ((i : Int) + 1)) = rd ws l.length * ((i : Int) + 1) := IntWalk.i64_in _ (by omega)
        have W2 : IntKind.i64.wrap (cost + rd ws l.length * ((i : Int) + 1)) = cost + rd ws l.length * ((i : Int) + 1) := IntWalk.i64_in _ (by omega)
        have MB := Aside0.mk hmul; clear hmul
        have V1 := Aside0.mk W1
        have V2 := Aside0.mk W2
        have t1 : decide ((i : Int) + 1 ≤ 11) = true := by simpa using hile
        by_cases hover : due < cost + rd ws l.length * ((i : Int) + 1)
        · have t2 : decide (cost + rd ws l.length * ((i : Int) + 1) ≤ due) = false := by
            simp
            omega
          have t3 : wrap64 (rd ws l.length * ((i : Int) + 1)) = rd ws l.length * ((i : Int) + 1) := by have := MB.out; unfold wrap64; omega
          have t4 : wrap64 (cost + rd ws l.length * ((i : Int) + 1)) = cost + rd ws l.length * ((i : Int) + 1) := by have := MB.out; unfold wrap64; omega
          clear W1 W2
          go_wp2
          go_quiet (fail)
          go_wp2
          go_end0
          have e := prt_over m due (rd ws l.length) (ws.drop (l.length + 1)) l cost left hxw.1 i hover (11 - i)
          rw [show i + (11 - i) = 11 by omega] at e
          rw [e]
          exact ⟨rfl, ov2, HSR.out.drewN _, HK.out.drewN _⟩
        · have t2 : decide (cost + rd ws l.length * ((i : Int) + 1) ≤ due) = true := by
            simp
            omega
          have t3 : wrap64 (rd ws l.length * ((i : Int) + 1)) = rd ws l.length * ((i : Int) + 1) := by have := MB.out; unfold wrap64; omega
          have t4 : wrap64 (cost + rd ws l.length * ((i : Int) + 1)) = cost + rd ws l.length * ((i : Int) + 1) := by have := MB.out; unfold wrap64; omega
          clear W1 W2
          have HP : Aside0 (Go.Proofs.Ytmbkdapofcgccaa.Pr.impl_power.f 12 m (11 - ((i : Int) + 1)) = some (m ^ (10 - i))) := ⟨by
            have := power_eq m hm (10 - i) (by omega)
            rwa [show ((10 - i : Nat) : Int) = 11 - ((i : Int) + 1) by omega] at this⟩
          have hpb := pow_bd m hm (10 - i) (by omega)
          have PB := Aside0.mk hpb; clear hpb
          by_cases hfit : m ^ (10 - i) ≤ left
          · have t5 : decide (m ^ (10 - i) ≤ left) = true := by simpa using hfit
            have V3 : Aside0 (IntKind.i64.wrap (left - m ^ (10 - i)) = left - m ^ (10 - i)) := ⟨IntWalk.i64_in _ (by have := PB.out; omega)⟩
            go_wp2
            go_quiet (fail)
            go_wp2_with (go_at_call 28; refine (Go.Proofs.Ytmbkdapofcgccaa.Pr.impl_power.calls 12 m (11 - ((i : Int) + 1)) (m ^ (10 - i)) _ HP.out).mono ?_; rintro e w3 ⟨rfl, ⟨nd, rfl⟩⟩)
            clear t3 t4 cW cD cM cA cX
            have IH2 : Aside0 (∀ (X' : Nat → Prop) (g' cap' : Nat) (W : World), (∀ k, W.heap.size ≤ k → X' k) → St w0 gW gD gO gM gA (some ad) wc ws due m X' g' cap' (l ++ [(i : Int) + 1]) ov2 (outs ++ prt m due (rd ws l.length) (ws.drop (l.length + 1)) l cost left i) W →
                Calls Try.prog 26 #[.slice (some ⟨g', 0, none⟩) (l.length + 1) cap', .int .i64 (cost + rd ws l.length * ((i : Int) + 1)), .int .i64 (left - m ^ (10 - i)), .pointer (some ⟨gW, 0, none⟩), .pointer (some ⟨gD, 0, none⟩), .pointer (some ⟨gO, 0, none⟩), .pointer (some ⟨gM, 0, none⟩), .pointer (some ⟨gA, 0, none⟩)] W
                  (AddPost w0 gW gD gO gM gA (some ad) wc ws due m (addAll m due (ws.drop (l.length + 1)) (l ++ [(i : Int) + 1]) (cost + rd ws l.length * ((i : Int) + 1)) (left - m ^ (10 - i))) X' g' cap' (l ++ [(i : Int) + 1]) (outs ++ prt m due (rd ws l.length) (ws.drop (l.length + 1)) l cost left i) W)) := by
              refine ⟨?_⟩
              intro X' g' cap' W hX' hSt
              have hbd : (outs ++ prt m due (rd ws l.length) (ws.drop (l.length + 1)) l cost left i).length + 11 ^ d ≤ 50000000 := by
                have h1 := prt_len m due (rd ws l.length) (ws.drop (l.length + 1)) l cost left i
                rw [HRS.out] at h1
                have h2 : i * 11 ^ d ≤ 10 * 11 ^ d := Nat.mul_le_mul_right _ (by omega)
                have h3 : 11 ^ (d + 1) = 10 * 11 ^ d + 11 ^ d := by rw [Nat.pow_succ]; omega
                have h4 := HO.out
                rw [List.length_append]
                omega
              have := IH.out X' g' cap' (l ++ [(i : Int) + 1]) (cost + rd ws l.length * ((i : Int) + 1)) (left - m ^ (10 - i)) ov2 _ W (by have := HD.out; simp; omega) (by have := MB.out; omega) (by have := PB.out; omega) hX' hSt hbd
              simpa using this
            clear IH
            have HX2 : Aside0 (∀ k, ((wr.drewN (nq + nd + 1)).alloc (.cells #[.int .i64 ((i : Int) + 1)] 3)).heap.size ≤ k → X k) := ⟨fun k hk => HX.out k (Nat.le_trans HK.out.1 (Nat.le_trans (by simp) hk))⟩
            go_region_held3 (fun w' => w'.cell? ⟨gW, 0, none⟩ = some (.slice (some ad) ws.length wc) ∧ w'.cell? (ad.add l.length) = some (.int .i64 (rd ws l.length)) ∧ w'.cell? ⟨gA, 0, none⟩ = some (.func (.func 26) #[] #[.pointer (some ⟨gW, 0, none⟩), .pointer (some ⟨gD, 0, none⟩), .pointer (some ⟨gO, 0, none⟩), .pointer (some ⟨gM, 0, none⟩), .pointer (some ⟨gA, 0, none⟩)]))
              (first | exact HSE.out.env.three HC.out | exact HSP.out.env.three HC.out | exact ((HSR.out.drewN _).alloc _).env.three HC.out | exact (HSR.out.drewN _).drew.env.three HC.out | exact (HSR.out.drewN _).env.three HC.out)
              (first
                | (refine step_push w0.heap.size rfl (.tmp 52) (.tmp 54) rfl g cap l ((i : Int) + 1) _ rfl rfl ?pO ?pb ?pl ?pB ?_
                   (case pO => exact ((HSR.out.drewN _).alloc _).own)
                   (case pb => exact blk_cell (blk_new (wr.drewN (nq + nd + 1)) _) 0)
                   (case pl => omega)
                   (case pB => exact ((HSR.out.drewN _).alloc _).env.bel.size)
                   (intro g' cap' W2 hO2 haft)
                   (have HAF := Aside0.mk haft; clear haft)
                   (have HSP : Aside0 (St w0 gW gD gO gM gA (some ad) wc ws due m (XX X g g') g' cap' (l ++ [(i : Int) + 1]) ov2 (outs ++ prt m due (rd ws l.length) (ws.drop (l.length + 1)) l cost left i) W2) := ⟨push_st ((HSR.out.drewN _).alloc _) hO2 HAF.out⟩))
                | (go_at_call 26
                   (rw [V1.out, V2.out, V3.out])
                   (refine (IH2.out (XX X g g') g' cap' _ (push_fresh HX2.out ((HSR.out.drewN (nq + nd + 1)).alloc _).own HAF.out.size) HSP.out).mono ?_)
                   (intro e w5 hp5)
                   (obtain ⟨rfl, ov5, hst5, hk5⟩ := push_back ((HSR.out.drewN (nq + nd + 1)).alloc _) HAF.out hp5)
                   (have HSE := Aside0.mk hst5; have HKE := Aside0.mk hk5; clear hst5 hk5 hp5)))
            go_wp2
            go_roundw
            case rel =>
              refine ⟨i + 1, by omega, by go_num, ⟨⟨⟨ov5, ?_⟩, ?_⟩⟩⟩
              · rw [prt_succ, if_pos ⟨by omega, hfit⟩, ← List.append_assoc]
                exact HSE.out
              · exact (((HK.out.drewN _).alloc _).then_ HKE.out (fun k hk => .inl hk))
            case measure => simp [intOf]; omega
          · have t5 : decide (m ^ (10 - i) ≤ left) = false := by simpa using hfit
            go_wp2
            go_quiet (fail)
            go_wp2_with (go_at_call 28; refine (Go.Proofs.Ytmbkdapofcgccaa.Pr.impl_power.calls 12 m (11 - ((i : Int) + 1)) (m ^ (10 - i)) _ HP.out).mono ?_; rintro e w3 ⟨rfl, ⟨nd, rfl⟩⟩)
            go_roundw
            case rel =>
              refine ⟨i + 1, by omega, by go_num, ⟨⟨⟨ov2, ?_⟩, HK.out.drewN _⟩⟩⟩
              rw [prt_succ, if_neg (fun h => absurd h.2 (by omega)), List.append_nil]
              exact HSR.out.drewN _
            case measure => simp [intOf]; omega

end Go.Proofs.Ytmbkdapofcgccaa.AddRec
