/- The delay in plain terms: both sides find the same. -/
import Derived.Test.YtmdaggnfgghnfaaDoorDlQ
import Derived.Test.YtmdaggnfgghnfaaDoorDl
import Derived.Test.YtmdaggnfgghnfaaDoorRho
import Derived.Test.YtmdaggnfgghnfaaDoorPfM0
namespace Go.Proofs.YtmdaggnfgghnfaaDoor.DlR
open Go Go.RowKit Go.Proofs.YtmdaggnfgghnfaaDoorW.PrintWords Go.Proofs.YtmdaggnfgghnfaaDoorW.PrintLast Go.Proofs.YtmdaggnfgghnfaaDoorW.PrintMore Go.Proofs.YtmdaggnfgghnfaaDoor.Wd Go.Proofs.YtmdaggnfgghnfaaDoor.Wset Go.Proofs.YtmdaggnfgghnfaaDoor.CmpWords Go.Proofs.YtmdaggnfgghnfaaDoor.SortS Go.Proofs.YtmdaggnfgghnfaaDoor.Ord Go.Proofs.YtmdaggnfgghnfaaDoor.DlP Go.Proofs.YtmdaggnfgghnfaaDoor.DlQ Go.Proofs.YtmdaggnfgghnfaaDoor.Gj Go.Proofs.YtmdaggnfgghnfaaDoor.Dl
set_option linter.unusedVariables false
set_option linter.unusedSimpArgs false

/-! ### joined lists -/
def NoC (l : List UInt8) : Prop := ¬ (44 : UInt8) ∈ l
theorem split : ∀ {x x' T T' : List UInt8}, NoC x → NoC x' → (T = [] ∨ ∃ t, T = 44 :: t) → (T' = [] ∨ ∃ t, T' = 44 :: t) → x ++ T = x' ++ T' → x = x' ∧ T = T'
  | [], [], _, _, _, _, _, _, h => ⟨rfl, h⟩
  | [], c :: x', T, T', _, h2, hT, _, h => by
    exfalso
    rcases hT with rfl | ⟨t, rfl⟩
    · cases h
    · injection h with h
      exact h2 (h ▸ List.mem_cons_self)
  | a :: x, [], T, T', h1, _, _, hT', h => by
    exfalso
    rcases hT' with rfl | ⟨t, rfl⟩
    · cases h
    · injection h with h
      exact h1 (h ▸ List.mem_cons_self)
  | a :: x, c :: x', T, T', h1, h2, hT, hT', h => by
    injection h with h h3
    subst h
    obtain ⟨e1, e2⟩ := split (fun hm => h1 (List.mem_cons_of_mem _ hm)) (fun hm => h2 (List.mem_cons_of_mem _ hm)) hT hT' h3
    exact ⟨by rw [e1], e2⟩
theorem tail_start (r : List (List UInt8)) : Lib.joinTail [44] r = [] ∨ ∃ t, Lib.joinTail [44] r = 44 :: t := by
  cases r with
  | nil => exact .inl rfl
  | cons y r => exact .inr ⟨y ++ Lib.joinTail [44] r, by simp [Lib.joinTail]⟩
theorem tail_inj : ∀ {r r' : List (List UInt8)}, (∀ y ∈ r, NoC y) → (∀ y ∈ r', NoC y) → Lib.joinTail [44] r = Lib.joinTail [44] r' → r = r'
  | [], [], _, _, _ => rfl
  | [], y :: r, _, _, h => by simp [Lib.joinTail] at h
  | y :: r, [], _, _, h => by simp [Lib.joinTail] at h
  | y :: r, y' :: r', h1, h2, h => by
    have e : ∀ (z : List UInt8) r, Lib.joinTail [44] (z :: r) = 44 :: (z ++ Lib.joinTail [44] r) := by intro z r; simp [Lib.joinTail]
    rw [e, e] at h
    injection h with _ h
    obtain ⟨e1, e2⟩ := split (h1 _ List.mem_cons_self) (h2 _ List.mem_cons_self) (tail_start _) (tail_start _) h
    rw [e1, tail_inj (fun z hz => h1 z (List.mem_cons_of_mem _ hz)) (fun z hz => h2 z (List.mem_cons_of_mem _ hz)) e2]
theorem data_inj : ∀ {l l' : List ByteArray}, l.map (·.data.toList) = l'.map (·.data.toList) → l = l'
  | [], [], _ => rfl
  | [], a :: l, h => by cases h
  | a :: l, [], h => by cases h
  | a :: l, b :: l', h => by
    simp only [List.map_cons, List.cons.injEq] at h
    rw [Go.WideShapes.bytes_inj h.1, data_inj h.2]
theorem joined_inj {l l' : List ByteArray} (h1 : ∀ s ∈ l, NoC s.data.toList) (h2 : ∀ s ∈ l', NoC s.data.toList) (n1 : l ≠ []) (n2 : l' ≠ []) (h : joined l comma = joined l' comma) : l = l' := by
  cases l with
  | nil => exact absurd rfl n1
  | cons a l =>
    cases l' with
    | nil => exact absurd rfl n2
    | cons b l' =>
      have e : joined (a :: l) comma = a.data.toList ++ Lib.joinTail [44] (l.map (·.data.toList)) := by unfold joined; rw [List.map_cons, Lib.join_cons]
      have e' : joined (b :: l') comma = b.data.toList ++ Lib.joinTail [44] (l'.map (·.data.toList)) := by unfold joined; rw [List.map_cons, Lib.join_cons]
      rw [e, e'] at h
      obtain ⟨q1, q2⟩ := split (h1 _ List.mem_cons_self) (h2 _ List.mem_cons_self) (tail_start _) (tail_start _) h
      have q3 := tail_inj (by intro y hy; obtain ⟨s, hs, rfl⟩ := List.mem_map.1 hy; exact h1 s (List.mem_cons_of_mem _ hs)) (by intro y hy; obtain ⟨s, hs, rfl⟩ := List.mem_map.1 hy; exact h2 s (List.mem_cons_of_mem _ hs)) q2
      rw [Go.WideShapes.bytes_inj q1, data_inj q3]
theorem tail_len (B : Nat) : ∀ r : List (List UInt8), (∀ y ∈ r, y.length ≤ B) → (Lib.joinTail [44] r).length ≤ r.length * (B + 1)
  | [], _ => by simp [Lib.joinTail]
  | y :: r, h => by
    have e : Lib.joinTail [44] (y :: r) = 44 :: (y ++ Lib.joinTail [44] r) := by simp [Lib.joinTail]
    have h0 := h y List.mem_cons_self
    have ih := tail_len B r (fun z hz => h z (List.mem_cons_of_mem _ hz))
    rw [e]
    simp only [List.length_cons, List.length_append, Nat.succ_mul]
    omega
theorem joined_len (B : Nat) (l : List ByteArray) (h : ∀ s ∈ l, s.size ≤ B) : (joined l comma).length ≤ l.length * (B + 1) := by
  cases l with
  | nil => simp [joined, Lib.join_nil]
  | cons a l =>
    have e : joined (a :: l) comma = a.data.toList ++ Lib.joinTail [44] (l.map (·.data.toList)) := by unfold joined; rw [List.map_cons, Lib.join_cons]
    have h0 := h a List.mem_cons_self
    have h1 := tail_len B (l.map (·.data.toList)) (by intro y hy; obtain ⟨s, hs, rfl⟩ := List.mem_map.1 hy; simpa using h s (List.mem_cons_of_mem _ hs))
    rw [List.length_map] at h1
    rw [e]
    simp only [List.length_cons, List.length_append, Nat.succ_mul]
    have : a.data.toList.length = a.size := by simp
    omega

/-! ### all rests are ends of words -/
def V (set : List ByteArray) : List ByteArray := set.flatMap fun z => (List.range z.size).map fun i => z.extract (i + 1) z.size
theorem mem_V (set : List ByteArray) (x : ByteArray) : x ∈ V set ↔ ∃ z ∈ set, ∃ i, 1 ≤ i ∧ i ≤ z.size ∧ x = z.extract i z.size := by
  simp only [V, List.mem_flatMap, List.mem_map, List.mem_range]
  constructor
  · rintro ⟨z, hz, i, hi, rfl⟩; exact ⟨z, hz, i + 1, by omega, by omega, rfl⟩
  · rintro ⟨z, hz, i, h1, h2, rfl⟩; exact ⟨z, hz, i - 1, by omega, by rw [Nat.sub_add_cancel h1]⟩
theorem V_len {set : List ByteArray} (hs : Short set) : (V set).length ≤ 96 := by
  have := flatMap_len (fun z : ByteArray => (List.range z.size).map fun i => z.extract (i + 1) z.size) 8 set (fun z hz => by
    simp only [List.length_map, List.length_range]
    exact (hs.2 z hz).2)
  have h2 : set.length * 8 ≤ 12 * 8 := Nat.mul_le_mul_right _ hs.1
  unfold V
  omega
theorem V_rest {set : List ByteArray} {left w : ByteArray} (hl : left ∈ set ∨ left ∈ V set) (hw : 1 ≤ w.size) (hb : w.size ≤ left.size) : rest left w ∈ V set := by
  rw [mem_V]
  rcases hl with h | h
  · exact ⟨left, h, w.size, hw, hb, rfl⟩
  · obtain ⟨z, hz, i, h1, h2, rfl⟩ := (mem_V _ _).1 h
    rw [ByteArray.size_extract] at hb
    refine ⟨z, hz, i + w.size, by omega, by omega, ?_⟩
    unfold rest
    rw [ByteArray.extract_extract, ByteArray.size_extract]
    congr 1
    omega
theorem cov_V {set : List ByteArray} : ∀ (n : Nat) (f x : ByteArray), 1 ≤ f.size → x ∈ cov n set f → x ∈ V set
  | 0, f, x, _, h => by simp [cov] at h
  | n + 1, f, x, hf, h => by
    simp only [cov, List.mem_flatMap] at h
    obtain ⟨z, hz, h⟩ := h
    by_cases b1 : bg z f = true
    · rw [if_pos b1, List.mem_singleton] at h
      subst h
      exact V_rest (.inl hz) hf (bg_size b1)
    · have b1' : bg z f = false := by simpa using b1
      rw [if_neg b1] at h
      by_cases b2 : bg f z = true
      · rw [if_pos b2] at h
        have := bg_less b1' b2
        exact cov_V n _ x (by rw [rest_size]; omega) h
      · rw [if_neg b2] at h
        cases h
theorem beh_V {set : List ByteArray} {w left x : ByteArray} (hl : left ∈ set ∨ left ∈ V set) (hw : 1 ≤ w.size) (h : x ∈ beh set w left) : x ∈ V set := by
  unfold beh at h
  by_cases b1 : bg left w = true
  · rw [if_pos b1, List.mem_singleton] at h
    subst h
    exact V_rest hl hw (bg_size b1)
  · have b1' : bg left w = false := by simpa using b1
    rw [if_neg b1] at h
    by_cases b2 : bg w left = true
    · rw [if_pos b2] at h
      have := bg_less b1' b2
      exact cov_V 9 _ x (by rw [rest_size]; omega) h
    · rw [if_neg b2] at h
      cases h

/-! ### the steps -/
def stp (set : List ByteArray) : Nat → List ByteArray
  | 0 => fst set
  | d + 1 => nxt set (stp set d)
def Goes (set : List ByteArray) (y x : ByteArray) : Prop := ∃ w ∈ set, x ∈ beh set w y
theorem mem_nxt (set rests : List ByteArray) (x : ByteArray) : x ∈ nxt set rests ↔ ∃ y, y ∈ rests ∧ Goes set y x := by
  unfold nxt Goes
  rw [mem_ordW, part_all]
  constructor
  · rintro ⟨i, hi, j, hj, h⟩
    refine ⟨wd rests i, by rw [wd_lt hi]; exact List.getElem_mem hi, wd set j, by rw [wd_lt hj]; exact List.getElem_mem hj, h⟩
  · rintro ⟨y, hy, w, hw, h⟩
    obtain ⟨i, hi, rfl⟩ := List.getElem_of_mem hy
    obtain ⟨j, hj, rfl⟩ := List.getElem_of_mem hw
    exact ⟨i, hi, j, hj, by unfold cell2; rw [wd_lt hi, wd_lt hj]; exact h⟩
theorem stp_S (set : List ByteArray) : ∀ d x, x ∈ stp set (d + 1) ↔ ∃ y, y ∈ stp set d ∧ Goes set y x := fun d x => mem_nxt set (stp set d) x
theorem stp_V {set : List ByteArray} (hs : Short set) : ∀ d x, x ∈ stp set d → x ∈ V set
  | 0, x, h => by
    simp only [stp, fst, mem_ordW, part_all] at h
    obtain ⟨i, hi, j, hj, h⟩ := h
    unfold cell1 at h
    split at h
    · cases h
    · refine beh_V (.inl (by rw [wd_lt hj]; exact List.getElem_mem hj)) ?_ h
      rw [wd_lt hi]
      exact (hs.2 _ (List.getElem_mem hi)).1
  | d + 1, x, h => by
    obtain ⟨y, hy, w, hw, h⟩ := (stp_S set d x).1 h
    exact beh_V (.inr (stp_V hs d y hy)) (hs.2 w hw).1 h
theorem stp_str (set : List ByteArray) : ∀ d, Str (stp set d)
  | 0 => ordW_str _
  | d + 1 => ordW_str _
theorem str_nodup {l : List ByteArray} (h : Str l) : l.Nodup := List.Pairwise.imp (fun {a b} hab e => by subst e; rw [ltB_irr] at hab; cases hab) h
theorem stp_len {set : List ByteArray} (hs : Short set) (d : Nat) : (stp set d).length ≤ 96 :=
  Nat.le_trans (Rho.nodup_le _ (V set) (str_nodup (stp_str set d)) (stp_V hs d)) (V_len hs)
theorem stp_shift (set : List ByteArray) {a b : Nat} (h : stp set a = stp set b) : ∀ t, stp set (a + t) = stp set (b + t)
  | 0 => h
  | t + 1 => by
    show nxt set (stp set (a + t)) = nxt set (stp set (b + t))
    rw [stp_shift set h t]
theorem least {p : Nat → Prop} : ∀ n, p n → ∃ m, m ≤ n ∧ p m ∧ ∀ q, q < m → ¬ p q := by
  intro n
  induction n using Nat.strongRecOn with
  | ind n ih =>
    intro h
    by_cases hs : ∃ q, q < n ∧ p q
    · obtain ⟨q, hq, hp⟩ := hs
      obtain ⟨m, h1, h2, h3⟩ := ih q hq hp
      exact ⟨m, by omega, h2, h3⟩
    · exact ⟨n, Nat.le_refl _, h, fun q hq hp => hs ⟨q, hq, hp⟩⟩

/-- Words without a comma. -/
def Plain (set : List ByteArray) : Prop := ∀ z ∈ set, NoC z.data.toList
theorem V_plain {set : List ByteArray} (hp : Plain set) {x : ByteArray} (h : x ∈ V set) : NoC x.data.toList := by
  obtain ⟨z, hz, i, _, _, rfl⟩ := (mem_V _ _).1 h
  intro hm
  refine hp z hz ?_
  rw [ByteArray.data_extract] at hm
  simp only [Array.toList_extract, List.extract] at hm
  first | exact List.mem_of_mem_drop (List.mem_of_mem_take hm) | exact List.mem_of_mem_take (List.mem_of_mem_drop hm)
theorem V_size {set : List ByteArray} (hs : Short set) {x : ByteArray} (h : x ∈ V set) : x.size ≤ 8 := by
  obtain ⟨z, hz, i, _, _, rfl⟩ := (mem_V _ _).1 h
  have := hs.2 z hz
  rw [ByteArray.size_extract]
  omega

/-! ### the reference -/
def scan (set : List ByteArray) : Nat → Nat → Int × Bool
  | 0, _ => (0, false)
  | n + 1, d => if stp set d = [] then ((d : Int), true) else scan set n (d + 1)
theorem scan_none {set : List ByteArray} (h : ∀ d, stp set d ≠ []) : ∀ n d, scan set n d = (0, false)
  | 0, _ => rfl
  | n + 1, d => by
    unfold scan
    rw [if_neg (h d), scan_none h n]
theorem scan_at {set : List ByteArray} {D : Nat} (hD : stp set D = []) (h : ∀ e, e < D → stp set e ≠ []) : ∀ n d, d ≤ D → D < d + n → scan set n d = ((D : Int), true)
  | 0, d, h1, h2 => by omega
  | n + 1, d, h1, h2 => by
    unfold scan
    by_cases e : d = D
    · subst e
      rw [if_pos hD]
    · rw [if_neg (h d (by omega)), scan_at hD h n (d + 1) (by omega) (by omega)]
theorem dlOf_ev {set : List ByteArray} (hs : Short set) : Ev (fun k => Go.Proofs.YtmdaggnfgghnfaaDoor.Pf.spec_dlOf.f k set) (scan set 98 0) := by
  have key : ∀ (j d : Nat), d + j = 98 → Ev (fun k => Go.Proofs.YtmdaggnfgghnfaaDoor.Pf.spec_dlOf.l0 k set (stp set d) (d : Int)) (scan set j d) := by
    intro j
    induction j with
    | zero =>
      intro d hd
      refine ev_ge 0 fun k hk => ?_
      obtain ⟨k, rfl⟩ : ∃ q, k = q + 1 := ⟨k - 1, by omega⟩
      simp only [Go.Proofs.YtmdaggnfgghnfaaDoor.Pf.spec_dlOf.l0]
      rw [if_neg (by omega)]
      rfl
    | succ j ih =>
      intro d hd
      unfold scan
      by_cases he : stp set d = []
      · rw [if_pos he]
        refine ev_ge 0 fun k hk => ?_
        obtain ⟨k, rfl⟩ : ∃ q, k = q + 1 := ⟨k - 1, by omega⟩
        simp only [Go.Proofs.YtmdaggnfgghnfaaDoor.Pf.spec_dlOf.l0]
        rw [if_pos (by omega), if_pos (by rw [he]; rfl)]
      · rw [if_neg he]
        obtain ⟨K1, h1⟩ := ih (d + 1) (by omega)
        obtain ⟨K2, h2⟩ := dlNext_ev hs (stp_len hs d)
        refine ev_ge (max K1 K2) fun k hk => ?_
        obtain ⟨k, rfl⟩ : ∃ q, k = q + 1 := ⟨k - 1, by omega⟩
        have h1 := h1 k (by omega)
        have h2 := h2 k (by omega)
        simp only [] at h1 h2
        simp only [Go.Proofs.YtmdaggnfgghnfaaDoor.Pf.spec_dlOf.l0]
        rw [if_pos (by omega), if_neg (by intro h; exact he (List.length_eq_zero_iff.1 (by omega))), h2, Option.bind_some, wrap_succ d (by omega)]
        exact h1
  obtain ⟨K1, h1⟩ := dlFirst_ev hs
  obtain ⟨K2, h2⟩ := key 98 0 (by omega)
  refine ev_ge (max K1 K2) fun k hk => ?_
  have h1 := h1 k (by omega)
  have h2 := h2 k (by omega)
  simp only [] at h1 h2
  unfold Go.Proofs.YtmdaggnfgghnfaaDoor.Pf.spec_dlOf.f
  rw [h1, Option.bind_some]
  exact h2

/-! ### the code -/
def keyL (set : List ByteArray) (d : Nat) : List UInt8 := joined (stp set d) comma
def mets (set : List ByteArray) : Nat → List (List UInt8)
  | 0 => []
  | d + 1 => keyL set d :: mets set d
theorem mets_len (set : List ByteArray) : ∀ d, (mets set d).length = d
  | 0 => rfl
  | d + 1 => by simp [mets, mets_len set d]
theorem mem_mets (set : List ByteArray) (x : List UInt8) : ∀ d, x ∈ mets set d ↔ ∃ e, e < d ∧ x = keyL set e
  | 0 => by simp [mets]
  | d + 1 => by
    simp only [mets, List.mem_cons, mem_mets set x d]
    constructor
    · rintro (rfl | ⟨e, he, rfl⟩)
      · exact ⟨d, by omega, rfl⟩
      · exact ⟨e, by omega, rfl⟩
    · rintro ⟨e, he, rfl⟩
      by_cases h : e = d
      · subst h; exact .inl rfl
      · exact .inr ⟨e, by omega, rfl⟩
theorem join_some {set : List ByteArray} (hs : Short set) (d : Nat) : strings_Join.f (stp set d) comma = some ⟨(keyL set d).toArray⟩ := by
  have h1 := stp_len hs d
  have h2 := joined_len 8 (stp set d) (fun s h => V_size hs (stp_V hs d s h))
  unfold strings_Join.f keyL
  rw [if_pos ⟨by omega, by omega⟩]
theorem key_inj {set : List ByteArray} (hs : Short set) (hp : Plain set) {a b : Nat} (ha : stp set a ≠ []) (hb : stp set b ≠ []) : keyL set a = keyL set b ↔ stp set a = stp set b :=
  ⟨fun h => joined_inj (fun s h => V_plain hp (stp_V hs a s h)) (fun s h => V_plain hp (stp_V hs b s h)) ha hb h, fun h => by unfold keyL; rw [h]⟩
theorem loop_ends {set : List ByteArray} (hs : Short set) (hp : Plain set) (T : Nat) (hT : T < 1000000000000000000) (hend : stp set T = [] ∨ ∃ a, a < T ∧ stp set a = stp set T) (hb : ∀ d, d < T → stp set d ≠ [] ∧ ∀ a, a < d → stp set a ≠ stp set d) :
    ∀ (j d : Nat), d + j = T → ∃ K, ∀ k, K ≤ k → ∀ n, j < n → loop k set n (d : Int) (stp set d) (mets set d) = some (if stp set T = [] then ((T : Int), true) else (0, false)) := by
  intro j
  induction j with
  | zero =>
    intro d hd
    obtain rfl : d = T := by omega
    refine ⟨0, fun k _ n hn => ?_⟩
    obtain ⟨n, rfl⟩ : ∃ q, n = q + 1 := ⟨n - 1, by omega⟩
    unfold loop
    by_cases he : stp set d = []
    · rw [if_pos (by rw [he]; rfl), if_pos he]
    · rw [if_neg (fun h => he (List.length_eq_zero_iff.1 h)), if_neg he, join_some hs, Option.bind_some]
      rcases hend with h | ⟨a, ha, h⟩
      · exact absurd h he
      · rw [if_pos ((mem_mets _ _ _).2 ⟨a, ha, by rw [List.toList_toArray]; unfold keyL; rw [h]⟩)]
  | succ j ih =>
    intro d hd
    obtain ⟨K1, h1⟩ := ih (d + 1) (by omega)
    obtain ⟨K2, h2⟩ := nextRests_ev hs (stp_len hs d)
    obtain ⟨he, hne⟩ := hb d (by omega)
    refine ⟨max K1 K2, fun k hk n hn => ?_⟩
    obtain ⟨n, rfl⟩ : ∃ q, n = q + 1 := ⟨n - 1, by omega⟩
    have h1 := h1 k (by omega) n (by omega)
    have h2 := h2 k (by omega)
    simp only [] at h2
    unfold loop
    rw [if_neg (fun h => he (List.length_eq_zero_iff.1 h)), join_some hs, Option.bind_some, if_neg, if_pos (by rw [mets_len]; omega), h2, Option.bind_some, wrap_succ d (by omega)]
    · exact h1
    · intro hm
      rw [List.toList_toArray, mem_mets] at hm
      obtain ⟨e, hlt, h⟩ := hm
      exact hne e hlt ((key_inj hs hp he (hb e (by omega)).1).1 h).symm
theorem root_bd {P n : Nat} (h : P ^ 3 ≤ 3 ^ n) (hn : n ≤ 96) : P ≤ 1853020188851841 := by
  apply Nat.le_of_not_lt
  intro hlt
  have h1 : 1853020188851841 ^ 3 < P ^ 3 := Nat.pow_lt_pow_left hlt (by decide)
  have h2 : 3 ^ n ≤ 3 ^ 96 := Nat.pow_le_pow_right (by decide) hn
  have h3 : (3 : Nat) ^ 96 = 1853020188851841 ^ 3 := by decide
  omega
theorem delayOf_ev {set : List ByteArray} (hs : Short set) (hp : Plain set) : Ev (fun k => impl_delayOf.f k set) (scan set 98 0) := by
  have hV := V_len hs
  have main : ∃ T, T < 1000000000000000000 ∧ (stp set T = [] ∨ ∃ a, a < T ∧ stp set a = stp set T) ∧ (∀ d, d < T → stp set d ≠ [] ∧ ∀ a, a < d → stp set a ≠ stp set d) ∧ (if stp set T = [] then ((T : Int), true) else (0, false)) = scan set 98 0 := by
    by_cases hE : ∃ d, stp set d = []
    · obtain ⟨d0, h0⟩ := hE
      have hso : stp set (V set).length = [] := List.eq_nil_iff_forall_not_mem.2 (Rho.soon (stp_S set) (stp_V hs) (d := d0) (fun x => by rw [h0]; exact List.not_mem_nil))
      obtain ⟨D, hD1, hD2, hD3⟩ := least (p := fun d => stp set d = []) _ hso
      refine ⟨D, by omega, .inl hD2, fun d hd => ⟨hD3 d hd, fun a ha h => ?_⟩, ?_⟩
      · have := stp_shift set h (D - d)
        rw [show d + (D - d) = D by omega, hD2] at this
        exact hD3 (a + (D - d)) (by omega) this
      · rw [if_pos hD2, scan_at hD2 hD3 98 0 (by omega) (by omega)]
    · have hE' : ∀ d, stp set d ≠ [] := fun d h => hE ⟨d, h⟩
      obtain ⟨a, b, P, hab, hP, hb, hsame⟩ := Rho.comes (stp_S set) (stp_V hs)
      have heq : stp set a = stp set b := str_uniq (stp_str set a) (stp_str set b) hsame
      have hP' := root_bd hP hV
      have hbig : ((V set).length + 1) * P ≤ 97 * 1853020188851841 := Nat.mul_le_mul (by omega) hP'
      obtain ⟨T, hT1, ⟨a', ha', hT2⟩, hT3⟩ := least (p := fun b => ∃ a, a < b ∧ stp set a = stp set b) b ⟨a, hab, heq⟩
      refine ⟨T, by omega, .inr ⟨a', ha', hT2⟩, fun d hd => ⟨hE' d, fun e he h => hT3 d hd ⟨e, he, h⟩⟩, ?_⟩
      rw [if_neg (hE' T), scan_none hE']
  obtain ⟨T, hT, h1, h2, h3⟩ := main
  obtain ⟨K1, hK1⟩ := loop_ends hs hp T hT h1 h2 T 0 (by omega)
  obtain ⟨K2, hK2⟩ := firstRests_ev hs
  refine ev_ge (max (max K1 K2) T) fun k hk => ?_
  have hK1 := hK1 k (by omega) k (by omega)
  have hK2 := hK2 k (by omega)
  simp only [] at hK2
  unfold impl_delayOf.f
  rw [hK2, Option.bind_some, ← h3]
  exact hK1
theorem set_short {l : List ByteArray} (h : Set l) : Short l := by
  refine ⟨h.1, fun z hz => ?_⟩
  obtain ⟨i, hi, rfl⟩ := List.getElem_of_mem hz
  have := h.2 i hi
  simp only [okAt, Bool.and_eq_true, shortB, decide_eq_true_eq] at this
  have e : l.getD i ByteArray.empty = l[i] := by simp [List.getD_eq_getElem?_getD, List.getElem?_eq_getElem hi]
  rw [e] at this
  exact this.1.1
theorem set_plain {l : List ByteArray} (h : Set l) : Plain l := by
  intro z hz hm
  obtain ⟨i, hi, rfl⟩ := List.getElem_of_mem hz
  have := h.2 i hi
  simp only [okAt, Bool.and_eq_true, shortB, decide_eq_true_eq] at this
  have e : l.getD i ByteArray.empty = l[i] := by simp [List.getD_eq_getElem?_getD, List.getElem?_eq_getElem hi]
  rw [e] at this
  have h2 := this.1.2
  unfold abc at h2
  have := List.all_eq_true.1 h2 44 hm
  exact absurd this (by decide)
end Go.Proofs.YtmdaggnfgghnfaaDoor.DlR
